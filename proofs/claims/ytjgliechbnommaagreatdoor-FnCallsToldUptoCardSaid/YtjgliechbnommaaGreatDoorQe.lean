/- The engine and the contracts of the functions that the claim reaches (texts packed, part 5). -/
import Derived.Test.YtjgliechbnommaaGreatDoorQd
set_option linter.unusedVariables false
set_option linter.unusedSimpArgs false
namespace Go.Proofs.YtjgliechbnommaaGreatDoor
open Go.Eng
theorem tz161 : tyZero Tryz.prog 161 = some (some (.agg #[.string ⟨#[]⟩, .int .i64 0, .int .i64 0, .int .i64 0])) := by kernel_rfl
theorem cl140 : Callable Tryz.prog 140 := Zq Tryz.func140
theorem cl173 : Callable Tryz.prog 173 := Zq Tryz.func173
theorem fa139_3 : tyField Tryz.prog 139 3 = some (3, true) := by kernel_rfl
theorem fa145_0 : tyField Tryz.prog 145 0 = some (0, true) := by kernel_rfl
theorem fa145_1 : tyField Tryz.prog 145 1 = some (1, true) := by kernel_rfl
theorem fa145_2 : tyField Tryz.prog 145 2 = some (2, true) := by kernel_rfl
theorem fa145_4 : tyField Tryz.prog 145 4 = some (4, true) := by kernel_rfl
theorem ta119 : tyAgg Tryz.prog 119 = some false := by kernel_rfl
theorem ta161 : tyAgg Tryz.prog 161 = some true := by kernel_rfl
theorem te119 : tyElem Tryz.prog 119 = some 139 := by kernel_rfl
theorem tpl161 : tyPlaces Tryz.prog 161 = some (layPlaces 0 [.one, .one, .one, .one]) := by kernel_rfl
theorem ts119 : tySize Tryz.prog 119 = some 1 := by kernel_rfl
theorem ts161 : tySize Tryz.prog 161 = some 4 := by kernel_rfl
theorem zo161 : ZeroOf Tryz.prog 161 (Lay.st [.one, .one, .one, .one]) (.d (.agg [.one, .one, .one, .one] [.c (.string ⟨#[]⟩), .c (.int .i64 0), .c (.int .i64 0), .c (.int .i64 0)])) := ⟨_, tz161, rfl, fun _ _ _ => VC_cells rfl⟩
set_option maxHeartbeats 1000000 in
set_option maxRecDepth 4000 in
theorem c_is (xs : List Sg) (s : Rs) (k : Int) (w : ByteArray) (hl : xs.length ≤ 1099511627776) : PCall Tryz.prog 140 [.rp LRD (injR xs s) [], .c (.int .i64 k), .c (.string w)] (· = [.c (.bool (isM xs s k w))]) := by
 refine PCall_of (n := 58) Tryz.func140 rfl rfl (Nat.le_of_ble_eq_true rfl) fun C hdm hT0 => ?_
 have hT := hT0
 refine Zs fun _ hK1 => ?_
 refine Za ?_
 refine Zn hK1 ?_
 refine AC_seq fun _ hK2 => ?_
 refine AC_draw hT follows [0, 1, 2, 3, 4, 5, 6, 7, 8, 9, 10, 11, 12, 13, 14, 15, 16, 17, 18, 19, 20, 21, 22, 23, 24, 25, 26, 27, 28, 29, 30, 31, 32, 33, 34, 35, 36, 37, 38, 39, 40, 41, 42, 43, 44, 45, 46, 47, 48, 49, 50, 51] (by kernel_rfl) ?_
 refine DT_ev rfl (EA_move) rfl ?_
 refine DT_ev rfl (EA_nilc_rp rfl) rfl ?_
 refine DT_ev rfl (EA_fa_rp rfl fa145_2 rfl rfl) rfl ?_
 refine DT_ev rfl (EA_load_rp rfl rfl rfl ts4 ta4 rfl (fun _ => rfl)) rfl ?_
 refine DT_ev rfl (EA_not rfl) rfl ?_
 refine DT_ev rfl (EA_move) rfl ?_
 refine DT_bool 12 rfl (fun hg1 => ?_) (fun hg1 => ?_)
 ·refine DT_evt rfl rfl rfl rfl (EA_move) rfl ?_
  refine DT_evt rfl rfl rfl rfl (EA_nilc_rp rfl) rfl ?_
  refine DT_evt rfl rfl rfl rfl (EA_fa_rp rfl fa145_1 rfl rfl) rfl ?_
  refine DT_evt rfl rfl rfl rfl (EA_load_rp rfl rfl rfl ts3 ta3 rfl (fun _ => rfl)) rfl ?_
  refine DT_evt rfl rfl rfl rfl (EA_move) rfl ?_
  refine DT_evt rfl rfl rfl rfl (EA_nilc_rp rfl) rfl ?_
  refine DT_evt rfl rfl rfl rfl (EA_fa_rp rfl fa145_0 rfl rfl) rfl ?_
  refine DT_evt rfl rfl rfl rfl (EA_load_rp rfl rfl rfl ts119 ta119 rfl (fun _ => rfl)) rfl ?_
  refine DT_evt rfl rfl rfl rfl (EA_len_sl te119 rfl) rfl ?_
  refine DT_evt rfl rfl rfl rfl (EA_lss rfl rfl) rfl ?_
  refine DT_ev rfl (EA_pick rfl) rfl ?_
  refine DT_ev rfl (EA_move) rfl ?_
  refine DT_bool 24 rfl (fun hg2 => ?_) (fun hg2 => ?_)
  ·simp only [injGs_length] at hg2
   have hlt : s.i < xs.length := by have := of_decide_eq_true hg2; omega
   refine Exists.elim (show ∃ v, xs[s.i]? = some v from ⟨_, List.getElem?_eq_getElem (by omega)⟩) fun g hg => ?_
   have hg2 := injGs_get hg
   refine DT_evt rfl rfl rfl rfl (EA_move) rfl ?_
   refine DT_evt rfl rfl rfl rfl (EA_nilc_rp rfl) rfl ?_
   refine DT_evt rfl rfl rfl rfl (EA_fa_rp rfl fa145_0 rfl rfl) rfl ?_
   refine DT_evt rfl rfl rfl rfl (EA_load_rp rfl rfl rfl ts119 ta119 rfl (fun _ => rfl)) rfl ?_
   refine DT_evt rfl rfl rfl rfl (EA_move) rfl ?_
   refine DT_evt rfl rfl rfl rfl (EA_nilc_rp rfl) rfl ?_
   refine DT_evt rfl rfl rfl rfl (EA_fa_rp rfl fa145_1 rfl rfl) rfl ?_
   refine DT_evt rfl rfl rfl rfl (EA_load_rp rfl rfl rfl ts3 ta3 rfl (fun _ => rfl)) rfl ?_
   refine DT_evt rfl rfl rfl rfl (EA_ix_sl rfl rfl te119 ts139 (by omega) (by assumption)) rfl ?_
   refine DT_evt rfl rfl rfl rfl (EA_fa_rp rfl fa139_0 rfl rfl) rfl ?_
   refine DT_evt rfl rfl rfl rfl (EA_load_rp rfl rfl rfl ts3 ta3 rfl (fun _ => rfl)) rfl ?_
   refine DT_evt rfl rfl rfl rfl (EA_move) rfl ?_
   refine DT_evt rfl rfl rfl rfl (EA_eql rfl rfl) rfl ?_
   refine DT_ev rfl (EA_pick rfl) rfl ?_
   refine DT_ev rfl (EA_move) rfl ?_
   refine DT_bool 39 rfl (fun hg3 => ?_) (fun hg3 => ?_)
   ·refine DT_evt rfl rfl rfl rfl (EA_move) rfl ?_
    refine DT_evt rfl rfl rfl rfl (EA_seql rfl rfl) rfl ?_
    refine DT_evt rfl rfl rfl rfl (EA_move) rfl ?_
    refine DT_bool 42 rfl (fun hg4 => ?_) (fun hg4 => ?_)
    ·iterate 13 refine Df ?_
     refine DT_evt rfl rfl rfl rfl (EA_pick rfl) rfl ?_
     refine DT_ev rfl (EA_pick rfl) rfl ?_
     refine DT_ev rfl (EA_assign) rfl ?_
     refine Zd hK2 ?_
     refine AC_ret ?_
     refine Zr hdm ?_
     (simp_all [isM]; done)
    ·refine DT_evt rfl rfl rfl rfl (EA_move) rfl ?_
     refine DT_evt rfl rfl rfl rfl (EA_nilc_rp rfl) rfl ?_
     refine DT_evt rfl rfl rfl rfl (EA_fa_rp rfl fa145_0 rfl rfl) rfl ?_
     refine DT_evt rfl rfl rfl rfl (EA_load_rp rfl rfl rfl ts119 ta119 rfl (fun _ => rfl)) rfl ?_
     refine DT_evt rfl rfl rfl rfl (EA_move) rfl ?_
     refine DT_evt rfl rfl rfl rfl (EA_nilc_rp rfl) rfl ?_
     refine DT_evt rfl rfl rfl rfl (EA_fa_rp rfl fa145_1 rfl rfl) rfl ?_
     refine DT_evt rfl rfl rfl rfl (EA_load_rp rfl rfl rfl ts3 ta3 rfl (fun _ => rfl)) rfl ?_
     refine DT_evt rfl rfl rfl rfl (EA_ix_sl rfl rfl te119 ts139 (by omega) (by assumption)) rfl ?_
     refine DT_evt rfl rfl rfl rfl (EA_fa_rp rfl fa139_1 rfl rfl) rfl ?_
     refine DT_evt rfl rfl rfl rfl (EA_load_rp rfl rfl rfl ts9 ta9 rfl (fun _ => rfl)) rfl ?_
     refine DT_evt rfl rfl rfl rfl (EA_move) rfl ?_
     refine DT_evt rfl rfl rfl rfl (EA_seql rfl rfl) rfl ?_
     refine DT_evt rfl rfl rfl rfl (EA_pick rfl) rfl ?_
     refine DT_ev rfl (EA_pick rfl) rfl ?_
     refine DT_ev rfl (EA_assign) rfl ?_
     refine Zd hK2 ?_
     refine AC_ret ?_
     refine Zr hdm ?_
     (simp_all [isM]; done)
   ·iterate 3 refine Df ?_
    iterate 13 refine Du ?_
    refine Df ?_
    refine DT_ev rfl (EA_pick rfl) rfl ?_
    refine DT_ev rfl (EA_assign) rfl ?_
    refine Zd hK2 ?_
    refine AC_ret ?_
    refine Zr hdm ?_
    (simp_all [isM]; done)
  ·simp only [injGs_length] at hg2
   have hlt : ¬ s.i < xs.length := by have := of_decide_eq_false hg2; omega
   have hno : xs[s.i]? = none := List.getElem?_eq_none (by omega)
   iterate 13 refine Df ?_
   refine DT_ev rfl (EA_pick rfl) rfl ?_
   refine DT_ev rfl (EA_move) rfl ?_
   iterate 3 refine Df ?_
   iterate 13 refine Du ?_
   refine Df ?_
   refine DT_ev rfl (EA_pick rfl) rfl ?_
   refine DT_ev rfl (EA_assign) rfl ?_
   refine Zd hK2 ?_
   refine AC_ret ?_
   refine Zr hdm ?_
   (simp_all [isM]; done)
 ·iterate 10 refine Df ?_
  refine DT_ev rfl (EA_pick rfl) rfl ?_
  refine DT_ev rfl (EA_move) rfl ?_
  iterate 13 refine Df ?_
  refine DT_ev rfl (EA_pick rfl) rfl ?_
  refine DT_ev rfl (EA_move) rfl ?_
  iterate 3 refine Df ?_
  iterate 13 refine Du ?_
  refine Df ?_
  refine DT_ev rfl (EA_pick rfl) rfl ?_
  refine DT_ev rfl (EA_assign) rfl ?_
  refine Zd hK2 ?_
  refine AC_ret ?_
  refine Zr hdm ?_
  (simp_all [isM]; done)
set_option maxHeartbeats 1000000 in
set_option maxRecDepth 4000 in
theorem c_near (xs : List Sg) (s : Rs) (hl : xs.length ≤ 1099511627776) (hi : s.i < xs.length) (hp : ∀ g ∈ xs, 0 ≤ g.p ∧ g.p ≤ 1099511627776) : PCall Tryz.prog 184 [.rp LRD (injR xs s) []] (· = [.c (.bool (nearM xs s))]) := by
 refine PCall_of (n := 56) Tryz.func184 rfl rfl (Nat.le_of_ble_eq_true rfl) fun C hdm hT0 => ?_
 have hT := hT0
 refine Zs fun _ hK1 => ?_
 refine Za ?_
 refine Zn hK1 ?_
 refine AC_seq fun _ hK2 => ?_
 refine AC_draw hT follows [0, 1, 2, 3, 4, 5, 6, 7, 8, 9, 10, 11, 12, 13, 14, 15, 16, 17, 18, 19, 20, 21, 22, 23, 24, 25, 26, 27, 28, 29, 30, 31, 32, 33, 34, 35, 36, 37, 38, 39, 40, 41, 42, 43, 44, 45, 46, 47, 48, 49, 50, 51, 52, 53] (by kernel_rfl) ?_
 refine DT_ev rfl (EA_move) rfl ?_
 refine DT_ev rfl (EA_nilc_rp rfl) rfl ?_
 refine DT_ev rfl (EA_fa_rp rfl fa145_1 rfl rfl) rfl ?_
 refine DT_ev rfl (EA_load_rp rfl rfl rfl ts3 ta3 rfl (fun _ => rfl)) rfl ?_
 refine DT_ev rfl (EA_add rfl rfl _ (wrap_id (by omega) (by omega))) rfl ?_
 refine DT_ev rfl (EA_move) rfl ?_
 refine DT_ev rfl (EA_nilc_rp rfl) rfl ?_
 refine DT_ev rfl (EA_fa_rp rfl fa145_0 rfl rfl) rfl ?_
 refine DT_ev rfl (EA_load_rp rfl rfl rfl ts119 ta119 rfl (fun _ => rfl)) rfl ?_
 refine DT_ev rfl (EA_len_sl te119 rfl) rfl ?_
 refine DT_ev rfl (EA_lss rfl rfl) rfl ?_
 refine DT_ev rfl (EA_move) rfl ?_
 refine DT_bool 14 rfl (fun hg1 => ?_) (fun hg1 => ?_)
 ·simp only [injGs_length] at hg1
  have hlt : s.i + 1 < xs.length := by have := of_decide_eq_true hg1; omega
  refine Exists.elim (show ∃ v, xs[s.i]? = some v from ⟨_, List.getElem?_eq_getElem (by omega)⟩) fun g hg => ?_
  have hg2 := injGs_get hg
  refine Exists.elim (show ∃ v, xs[s.i + 1]? = some v from ⟨_, List.getElem?_eq_getElem (by omega)⟩) fun z hz => ?_
  have hz2 := injGs_get hz
  have hgp := hp g (List.mem_of_getElem? hg)
  have hz3 : (injGs xs)[(((s.i : Nat) : Int) + 1).toNat]? = some (injG z) := by rw [show (((s.i : Nat) : Int) + 1).toNat = s.i + 1 by omega]; simpa using hz2
  refine DT_evt rfl rfl rfl rfl (EA_move) rfl ?_
  refine DT_evt rfl rfl rfl rfl (EA_nilc_rp rfl) rfl ?_
  refine DT_evt rfl rfl rfl rfl (EA_fa_rp rfl fa145_0 rfl rfl) rfl ?_
  refine DT_evt rfl rfl rfl rfl (EA_load_rp rfl rfl rfl ts119 ta119 rfl (fun _ => rfl)) rfl ?_
  refine DT_evt rfl rfl rfl rfl (EA_move) rfl ?_
  refine DT_evt rfl rfl rfl rfl (EA_nilc_rp rfl) rfl ?_
  refine DT_evt rfl rfl rfl rfl (EA_fa_rp rfl fa145_1 rfl rfl) rfl ?_
  refine DT_evt rfl rfl rfl rfl (EA_load_rp rfl rfl rfl ts3 ta3 rfl (fun _ => rfl)) rfl ?_
  refine DT_evt rfl rfl rfl rfl (EA_add rfl rfl _ (wrap_id (by omega) (by omega))) rfl ?_
  refine DT_evt rfl rfl rfl rfl (EA_ix_sl rfl rfl te119 ts139 (by omega) (by assumption)) rfl ?_
  refine DT_evt rfl rfl rfl rfl (EA_fa_rp rfl fa139_0 rfl rfl) rfl ?_
  refine DT_evt rfl rfl rfl rfl (EA_load_rp rfl rfl rfl ts3 ta3 rfl (fun _ => rfl)) rfl ?_
  refine DT_evt rfl rfl rfl rfl (EA_eql rfl rfl) rfl ?_
  refine DT_ev rfl (EA_pick rfl) rfl ?_
  refine DT_ev rfl (EA_move) rfl ?_
  refine DT_bool 29 rfl (fun hg2 => ?_) (fun hg2 => ?_)
  ·refine DT_evt rfl rfl rfl rfl (EA_move) rfl ?_
   refine DT_evt rfl rfl rfl rfl (EA_nilc_rp rfl) rfl ?_
   refine DT_evt rfl rfl rfl rfl (EA_fa_rp rfl fa145_0 rfl rfl) rfl ?_
   refine DT_evt rfl rfl rfl rfl (EA_load_rp rfl rfl rfl ts119 ta119 rfl (fun _ => rfl)) rfl ?_
   refine DT_evt rfl rfl rfl rfl (EA_move) rfl ?_
   refine DT_evt rfl rfl rfl rfl (EA_nilc_rp rfl) rfl ?_
   refine DT_evt rfl rfl rfl rfl (EA_fa_rp rfl fa145_1 rfl rfl) rfl ?_
   refine DT_evt rfl rfl rfl rfl (EA_load_rp rfl rfl rfl ts3 ta3 rfl (fun _ => rfl)) rfl ?_
   refine DT_evt rfl rfl rfl rfl (EA_add rfl rfl _ (wrap_id (by omega) (by omega))) rfl ?_
   refine DT_evt rfl rfl rfl rfl (EA_ix_sl rfl rfl te119 ts139 (by omega) (by assumption)) rfl ?_
   refine DT_evt rfl rfl rfl rfl (EA_fa_rp rfl fa139_3 rfl rfl) rfl ?_
   refine DT_evt rfl rfl rfl rfl (EA_load_rp rfl rfl rfl ts3 ta3 rfl (fun _ => rfl)) rfl ?_
   refine DT_evt rfl rfl rfl rfl (EA_move) rfl ?_
   refine DT_evt rfl rfl rfl rfl (EA_nilc_rp rfl) rfl ?_
   refine DT_evt rfl rfl rfl rfl (EA_fa_rp rfl fa145_0 rfl rfl) rfl ?_
   refine DT_evt rfl rfl rfl rfl (EA_load_rp rfl rfl rfl ts119 ta119 rfl (fun _ => rfl)) rfl ?_
   refine DT_evt rfl rfl rfl rfl (EA_move) rfl ?_
   refine DT_evt rfl rfl rfl rfl (EA_nilc_rp rfl) rfl ?_
   refine DT_evt rfl rfl rfl rfl (EA_fa_rp rfl fa145_1 rfl rfl) rfl ?_
   refine DT_evt rfl rfl rfl rfl (EA_load_rp rfl rfl rfl ts3 ta3 rfl (fun _ => rfl)) rfl ?_
   refine DT_evt rfl rfl rfl rfl (EA_ix_sl rfl rfl te119 ts139 (by omega) (by assumption)) rfl ?_
   refine DT_evt rfl rfl rfl rfl (EA_fa_rp rfl fa139_3 rfl rfl) rfl ?_
   refine DT_evt rfl rfl rfl rfl (EA_load_rp rfl rfl rfl ts3 ta3 rfl (fun _ => rfl)) rfl ?_
   refine DT_evt rfl rfl rfl rfl (EA_add rfl rfl _ (wrap_id (by omega) (by omega))) rfl ?_
   refine DT_evt rfl rfl rfl rfl (EA_eql rfl rfl) rfl ?_
   refine DT_ev rfl (EA_pick rfl) rfl ?_
   refine DT_ev rfl (EA_assign) rfl ?_
   refine Zd hK2 ?_
   refine AC_ret ?_
   refine Zr hdm ?_
   (simp_all [nearM]; done)
  ·iterate 25 refine Df ?_
   refine DT_ev rfl (EA_pick rfl) rfl ?_
   refine DT_ev rfl (EA_assign) rfl ?_
   refine Zd hK2 ?_
   refine AC_ret ?_
   refine Zr hdm ?_
   (simp_all [nearM]; done)
 ·simp only [injGs_length] at hg1
  have hlt : ¬ s.i + 1 < xs.length := by have := of_decide_eq_false hg1; omega
  have hno : xs[s.i + 1]? = none := List.getElem?_eq_none (by omega)
  iterate 13 refine Df ?_
  refine DT_ev rfl (EA_pick rfl) rfl ?_
  refine DT_ev rfl (EA_move) rfl ?_
  iterate 25 refine Df ?_
  refine DT_ev rfl (EA_pick rfl) rfl ?_
  refine DT_ev rfl (EA_assign) rfl ?_
  refine Zd hK2 ?_
  refine AC_ret ?_
  refine Zr hdm ?_
  (simp_all [nearM]; done)
set_option maxHeartbeats 8000000 in
set_option maxRecDepth 4000 in
theorem c_infixOf (x : ByteArray) : PCall Tryz.prog 177 [.c (.string x)] (· = [injO (betw x).1, .c (.bool (betw x).2)]) := by
 refine PCall_of (n := 42) Tryz.func177 rfl rfl (Nat.le_of_ble_eq_true rfl) fun C hdm hT0 => ?_
 have hT := hT0
 refine Zs fun _ hK1 => ?_
 refine AL_alloc zo161 _ rfl rfl ?_
 refine Za ?_
 refine Zn hK1 ?_
 refine AC_seq fun _ hK2 => ?_
 refine Zs fun _ hK3 => ?_
 refine Zm ?_
 refine Zn hK3 ?_
 refine AC_block ?_
 refine AC_seq fun _ hK4 => ?_
 refine Zs fun _ hK5 => ?_
 refine Ze (Ev_seql rfl rfl) ?_
 refine Za ?_
 refine Zn hK5 ?_
 refine Zc (fun hc1 => ?_) fun hc1 => ?_
 ·refine Zk hK4 ?_
  refine AC_cond_t (congrArg bl hc1) ?_
  refine Zs fun _ hK6 => ?_
  refine Zm ?_
  refine Ze (Ev_build (fs := [.one, .one, .one, .one]) (zs := [.c (.string ⟨#[]⟩), .c (.int .i64 0), .c (.int .i64 0), .c (.int .i64 0)]) tz161 rfl tpl161 (.cons rfl rfl (by rfl) (.cons rfl rfl (by rfl) (.cons rfl rfl (by rfl) (.cons rfl rfl (by rfl) .nil))))) ?_
  refine Ys ts161 ?_
  refine Za ?_
  refine Zn hK6 ?_
  refine AC_ret ?_
  exact ret_ok hdm (.cell rfl rfl rfl rfl rfl rfl ts161 ta161 (by rfl) (by intro h; cases h) (.tmp rfl rfl .nil)) (.cons (by exact .agg (.cons .d (.cons .d (.cons .d (.cons .d .nil))))) (.cons .d .nil)) (by (have hx9 : x = _ := of_decide_eq_true (by assumption); subst hx9; exact op_ret rfl))
 ·refine AC_region ?_
  refine Ze (Ev_seql rfl rfl) ?_
  refine Za ?_
  refine Zn hK4 ?_
  refine Zc (fun hc2 => ?_) fun hc2 => ?_
  ·refine Zs fun _ hK7 => ?_
   refine Zm ?_
   refine Ze (Ev_build (fs := [.one, .one, .one, .one]) (zs := [.c (.string ⟨#[]⟩), .c (.int .i64 0), .c (.int .i64 0), .c (.int .i64 0)]) tz161 rfl tpl161 (.cons rfl rfl (by rfl) (.cons rfl rfl (by rfl) (.cons rfl rfl (by rfl) (.cons rfl rfl (by rfl) .nil))))) ?_
   refine Ys ts161 ?_
   refine Za ?_
   refine Zn hK7 ?_
   refine AC_ret ?_
   exact ret_ok hdm (.cell rfl rfl rfl rfl rfl rfl ts161 ta161 (by rfl) (by intro h; cases h) (.tmp rfl rfl .nil)) (.cons (by exact .agg (.cons .d (.cons .d (.cons .d (.cons .d .nil))))) (.cons .d .nil)) (by (have hx9 : x = _ := of_decide_eq_true (by assumption); subst hx9; exact op_ret rfl))
  ·refine Zs fun _ hK8 => ?_
   refine Ze (Ev_seql rfl rfl) ?_
   refine Za ?_
   refine Zn hK8 ?_
   refine Zc (fun hc3 => ?_) fun hc3 => ?_
   ·refine Zs fun _ hK9 => ?_
    refine Zm ?_
    refine Ze (Ev_build (fs := [.one, .one, .one, .one]) (zs := [.c (.string ⟨#[]⟩), .c (.int .i64 0), .c (.int .i64 0), .c (.int .i64 0)]) tz161 rfl tpl161 (.cons rfl rfl (by rfl) (.cons rfl rfl (by rfl) (.cons rfl rfl (by rfl) (.cons rfl rfl (by rfl) .nil))))) ?_
    refine Ys ts161 ?_
    refine Za ?_
    refine Zn hK9 ?_
    refine AC_ret ?_
    exact ret_ok hdm (.cell rfl rfl rfl rfl rfl rfl ts161 ta161 (by rfl) (by intro h; cases h) (.tmp rfl rfl .nil)) (.cons (by exact .agg (.cons .d (.cons .d (.cons .d (.cons .d .nil))))) (.cons .d .nil)) (by (have hx9 : x = _ := of_decide_eq_true (by assumption); subst hx9; exact op_ret rfl))
   ·refine Zs fun _ hK10 => ?_
    refine Ze (Ev_seql rfl rfl) ?_
    refine Za ?_
    refine Zn hK10 ?_
    refine Zc (fun hc4 => ?_) fun hc4 => ?_
    ·refine Zs fun _ hK11 => ?_
     refine Zm ?_
     refine Ze (Ev_build (fs := [.one, .one, .one, .one]) (zs := [.c (.string ⟨#[]⟩), .c (.int .i64 0), .c (.int .i64 0), .c (.int .i64 0)]) tz161 rfl tpl161 (.cons rfl rfl (by rfl) (.cons rfl rfl (by rfl) (.cons rfl rfl (by rfl) (.cons rfl rfl (by rfl) .nil))))) ?_
     refine Ys ts161 ?_
     refine Za ?_
     refine Zn hK11 ?_
     refine AC_ret ?_
     exact ret_ok hdm (.cell rfl rfl rfl rfl rfl rfl ts161 ta161 (by rfl) (by intro h; cases h) (.tmp rfl rfl .nil)) (.cons (by exact .agg (.cons .d (.cons .d (.cons .d (.cons .d .nil))))) (.cons .d .nil)) (by (have hx9 : x = _ := of_decide_eq_true (by assumption); subst hx9; exact op_ret rfl))
    ·refine Zs fun _ hK12 => ?_
     refine Ze (Ev_seql rfl rfl) ?_
     refine Za ?_
     refine Zn hK12 ?_
     refine Zc (fun hc5 => ?_) fun hc5 => ?_
     ·refine Zs fun _ hK13 => ?_
      refine Zm ?_
      refine Ze (Ev_build (fs := [.one, .one, .one, .one]) (zs := [.c (.string ⟨#[]⟩), .c (.int .i64 0), .c (.int .i64 0), .c (.int .i64 0)]) tz161 rfl tpl161 (.cons rfl rfl (by rfl) (.cons rfl rfl (by rfl) (.cons rfl rfl (by rfl) (.cons rfl rfl (by rfl) .nil))))) ?_
      refine Ys ts161 ?_
      refine Za ?_
      refine Zn hK13 ?_
      refine AC_ret ?_
      exact ret_ok hdm (.cell rfl rfl rfl rfl rfl rfl ts161 ta161 (by rfl) (by intro h; cases h) (.tmp rfl rfl .nil)) (.cons (by exact .agg (.cons .d (.cons .d (.cons .d (.cons .d .nil))))) (.cons .d .nil)) (by (have hx9 : x = _ := of_decide_eq_true (by assumption); subst hx9; exact op_ret rfl))
     ·refine AC_seq fun _ hK14 => ?_
      refine Zs fun _ hK15 => ?_
      refine Ze (Ev_seql rfl rfl) ?_
      refine Za ?_
      refine Zn hK15 ?_
      refine Zc (fun hc6 => ?_) fun hc6 => ?_
      ·refine Zk hK14 ?_
       refine AC_cond_t (congrArg bl hc6) ?_
       refine Zs fun _ hK16 => ?_
       refine Zm ?_
       refine Ze (Ev_build (fs := [.one, .one, .one, .one]) (zs := [.c (.string ⟨#[]⟩), .c (.int .i64 0), .c (.int .i64 0), .c (.int .i64 0)]) tz161 rfl tpl161 (.cons rfl rfl (by rfl) (.cons rfl rfl (by rfl) (.cons rfl rfl (by rfl) (.cons rfl rfl (by rfl) .nil))))) ?_
       refine Ys ts161 ?_
       refine Za ?_
       refine Zn hK16 ?_
       refine AC_ret ?_
       exact ret_ok hdm (.cell rfl rfl rfl rfl rfl rfl ts161 ta161 (by rfl) (by intro h; cases h) (.tmp rfl rfl .nil)) (.cons (by exact .agg (.cons .d (.cons .d (.cons .d (.cons .d .nil))))) (.cons .d .nil)) (by (have hx9 : x = _ := of_decide_eq_true (by assumption); subst hx9; exact op_ret rfl))
      ·refine Zs fun _ hK17 => ?_
       refine Ze (Ev_seql rfl rfl) ?_
       refine Za ?_
       refine Zn hK17 ?_
       refine Zc (fun hc7 => ?_) fun hc7 => ?_
       ·refine Zk hK14 ?_
        refine AC_cond_t (congrArg bl hc7) ?_
        refine Zs fun _ hK18 => ?_
        refine Zm ?_
        refine Ze (Ev_build (fs := [.one, .one, .one, .one]) (zs := [.c (.string ⟨#[]⟩), .c (.int .i64 0), .c (.int .i64 0), .c (.int .i64 0)]) tz161 rfl tpl161 (.cons rfl rfl (by rfl) (.cons rfl rfl (by rfl) (.cons rfl rfl (by rfl) (.cons rfl rfl (by rfl) .nil))))) ?_
        refine Ys ts161 ?_
        refine Za ?_
        refine Zn hK18 ?_
        refine AC_ret ?_
        exact ret_ok hdm (.cell rfl rfl rfl rfl rfl rfl ts161 ta161 (by rfl) (by intro h; cases h) (.tmp rfl rfl .nil)) (.cons (by exact .agg (.cons .d (.cons .d (.cons .d (.cons .d .nil))))) (.cons .d .nil)) (by (have hx9 : x = _ := of_decide_eq_true (by assumption); subst hx9; exact op_ret rfl))
       ·refine Zs fun _ hK19 => ?_
        refine Ze (Ev_seql rfl rfl) ?_
        refine Za ?_
        refine Zn hK19 ?_
        refine Zc (fun hc8 => ?_) fun hc8 => ?_
        ·refine Zk hK14 ?_
         refine AC_cond_t (congrArg bl hc8) ?_
         refine Zs fun _ hK20 => ?_
         refine Zm ?_
         refine Ze (Ev_build (fs := [.one, .one, .one, .one]) (zs := [.c (.string ⟨#[]⟩), .c (.int .i64 0), .c (.int .i64 0), .c (.int .i64 0)]) tz161 rfl tpl161 (.cons rfl rfl (by rfl) (.cons rfl rfl (by rfl) (.cons rfl rfl (by rfl) (.cons rfl rfl (by rfl) .nil))))) ?_
         refine Ys ts161 ?_
         refine Za ?_
         refine Zn hK20 ?_
         refine AC_ret ?_
         exact ret_ok hdm (.cell rfl rfl rfl rfl rfl rfl ts161 ta161 (by rfl) (by intro h; cases h) (.tmp rfl rfl .nil)) (.cons (by exact .agg (.cons .d (.cons .d (.cons .d (.cons .d .nil))))) (.cons .d .nil)) (by (have hx9 : x = _ := of_decide_eq_true (by assumption); subst hx9; exact op_ret rfl))
        ·refine Zs fun _ hK21 => ?_
         refine Ze (Ev_seql rfl rfl) ?_
         refine Za ?_
         refine Zn hK21 ?_
         refine Zc (fun hc9 => ?_) fun hc9 => ?_
         ·refine Zk hK14 ?_
          refine AC_cond_t (congrArg bl hc9) ?_
          refine Zs fun _ hK22 => ?_
          refine Zm ?_
          refine Ze (Ev_build (fs := [.one, .one, .one, .one]) (zs := [.c (.string ⟨#[]⟩), .c (.int .i64 0), .c (.int .i64 0), .c (.int .i64 0)]) tz161 rfl tpl161 (.cons rfl rfl (by rfl) (.cons rfl rfl (by rfl) (.cons rfl rfl (by rfl) (.cons rfl rfl (by rfl) .nil))))) ?_
          refine Ys ts161 ?_
          refine Za ?_
          refine Zn hK22 ?_
          refine AC_ret ?_
          exact ret_ok hdm (.cell rfl rfl rfl rfl rfl rfl ts161 ta161 (by rfl) (by intro h; cases h) (.tmp rfl rfl .nil)) (.cons (by exact .agg (.cons .d (.cons .d (.cons .d (.cons .d .nil))))) (.cons .d .nil)) (by (have hx9 : x = _ := of_decide_eq_true (by assumption); subst hx9; exact op_ret rfl))
         ·refine Zs fun _ hK23 => ?_
          refine Ze (Ev_seql rfl rfl) ?_
          refine Za ?_
          refine Zn hK23 ?_
          refine Zc (fun hc10 => ?_) fun hc10 => ?_
          ·refine Zk hK14 ?_
           refine AC_cond_t (congrArg bl hc10) ?_
           refine Zs fun _ hK24 => ?_
           refine Zm ?_
           refine Ze (Ev_build (fs := [.one, .one, .one, .one]) (zs := [.c (.string ⟨#[]⟩), .c (.int .i64 0), .c (.int .i64 0), .c (.int .i64 0)]) tz161 rfl tpl161 (.cons rfl rfl (by rfl) (.cons rfl rfl (by rfl) (.cons rfl rfl (by rfl) (.cons rfl rfl (by rfl) .nil))))) ?_
           refine Ys ts161 ?_
           refine Za ?_
           refine Zn hK24 ?_
           refine AC_ret ?_
           exact ret_ok hdm (.cell rfl rfl rfl rfl rfl rfl ts161 ta161 (by rfl) (by intro h; cases h) (.tmp rfl rfl .nil)) (.cons (by exact .agg (.cons .d (.cons .d (.cons .d (.cons .d .nil))))) (.cons .d .nil)) (by (have hx9 : x = _ := of_decide_eq_true (by assumption); subst hx9; exact op_ret rfl))
          ·refine AC_region ?_
           refine Ze (Ev_seql rfl rfl) ?_
           refine Za ?_
           refine Zn hK14 ?_
           refine Zc (fun hc11 => ?_) fun hc11 => ?_
           ·refine Zs fun _ hK25 => ?_
            refine Zm ?_
            refine Ze (Ev_build (fs := [.one, .one, .one, .one]) (zs := [.c (.string ⟨#[]⟩), .c (.int .i64 0), .c (.int .i64 0), .c (.int .i64 0)]) tz161 rfl tpl161 (.cons rfl rfl (by rfl) (.cons rfl rfl (by rfl) (.cons rfl rfl (by rfl) (.cons rfl rfl (by rfl) .nil))))) ?_
            refine Ys ts161 ?_
            refine Za ?_
            refine Zn hK25 ?_
            refine AC_ret ?_
            exact ret_ok hdm (.cell rfl rfl rfl rfl rfl rfl ts161 ta161 (by rfl) (by intro h; cases h) (.tmp rfl rfl .nil)) (.cons (by exact .agg (.cons .d (.cons .d (.cons .d (.cons .d .nil))))) (.cons .d .nil)) (by (have hx9 : x = _ := of_decide_eq_true (by assumption); subst hx9; exact op_ret rfl))
           ·refine AC_seq fun _ hK26 => ?_
            refine Zs fun _ hK27 => ?_
            refine Ze (Ev_seql rfl rfl) ?_
            refine Za ?_
            refine Zn hK27 ?_
            refine Zc (fun hc12 => ?_) fun hc12 => ?_
            ·refine Zk hK26 ?_
             refine AC_cond_t (congrArg bl hc12) ?_
             refine Zs fun _ hK28 => ?_
             refine Zm ?_
             refine Ze (Ev_build (fs := [.one, .one, .one, .one]) (zs := [.c (.string ⟨#[]⟩), .c (.int .i64 0), .c (.int .i64 0), .c (.int .i64 0)]) tz161 rfl tpl161 (.cons rfl rfl (by rfl) (.cons rfl rfl (by rfl) (.cons rfl rfl (by rfl) (.cons rfl rfl (by rfl) .nil))))) ?_
             refine Ys ts161 ?_
             refine Za ?_
             refine Zn hK28 ?_
             refine AC_ret ?_
             exact ret_ok hdm (.cell rfl rfl rfl rfl rfl rfl ts161 ta161 (by rfl) (by intro h; cases h) (.tmp rfl rfl .nil)) (.cons (by exact .agg (.cons .d (.cons .d (.cons .d (.cons .d .nil))))) (.cons .d .nil)) (by (have hx9 : x = _ := of_decide_eq_true (by assumption); subst hx9; exact op_ret rfl))
            ·refine AC_region ?_
             refine Ze (Ev_seql rfl rfl) ?_
             refine Za ?_
             refine Zn hK26 ?_
             refine Zc (fun hc13 => ?_) fun hc13 => ?_
             ·refine Zs fun _ hK29 => ?_
              refine Zm ?_
              refine Ze (Ev_build (fs := [.one, .one, .one, .one]) (zs := [.c (.string ⟨#[]⟩), .c (.int .i64 0), .c (.int .i64 0), .c (.int .i64 0)]) tz161 rfl tpl161 (.cons rfl rfl (by rfl) (.cons rfl rfl (by rfl) (.cons rfl rfl (by rfl) (.cons rfl rfl (by rfl) .nil))))) ?_
              refine Ys ts161 ?_
              refine Za ?_
              refine Zn hK29 ?_
              refine AC_ret ?_
              exact ret_ok hdm (.cell rfl rfl rfl rfl rfl rfl ts161 ta161 (by rfl) (by intro h; cases h) (.tmp rfl rfl .nil)) (.cons (by exact .agg (.cons .d (.cons .d (.cons .d (.cons .d .nil))))) (.cons .d .nil)) (by (have hx9 : x = _ := of_decide_eq_true (by assumption); subst hx9; exact op_ret rfl))
             ·refine AC_seq fun _ hK30 => ?_
              refine Zs fun _ hK31 => ?_
              refine Ze (Ev_seql rfl rfl) ?_
              refine Za ?_
              refine Zn hK31 ?_
              refine Zc (fun hc14 => ?_) fun hc14 => ?_
              ·refine Zk hK30 ?_
               refine AC_cond_t (congrArg bl hc14) ?_
               refine Zs fun _ hK32 => ?_
               refine Zm ?_
               refine Ze (Ev_build (fs := [.one, .one, .one, .one]) (zs := [.c (.string ⟨#[]⟩), .c (.int .i64 0), .c (.int .i64 0), .c (.int .i64 0)]) tz161 rfl tpl161 (.cons rfl rfl (by rfl) (.cons rfl rfl (by rfl) (.cons rfl rfl (by rfl) (.cons rfl rfl (by rfl) .nil))))) ?_
               refine Ys ts161 ?_
               refine Za ?_
               refine Zn hK32 ?_
               refine AC_ret ?_
               exact ret_ok hdm (.cell rfl rfl rfl rfl rfl rfl ts161 ta161 (by rfl) (by intro h; cases h) (.tmp rfl rfl .nil)) (.cons (by exact .agg (.cons .d (.cons .d (.cons .d (.cons .d .nil))))) (.cons .d .nil)) (by (have hx9 : x = _ := of_decide_eq_true (by assumption); subst hx9; exact op_ret rfl))
              ·refine AC_region ?_
               refine Ze (Ev_seql rfl rfl) ?_
               refine Za ?_
               refine Zn hK30 ?_
               refine Zc (fun hc15 => ?_) fun hc15 => ?_
               ·refine Zs fun _ hK33 => ?_
                refine Zm ?_
                refine Ze (Ev_build (fs := [.one, .one, .one, .one]) (zs := [.c (.string ⟨#[]⟩), .c (.int .i64 0), .c (.int .i64 0), .c (.int .i64 0)]) tz161 rfl tpl161 (.cons rfl rfl (by rfl) (.cons rfl rfl (by rfl) (.cons rfl rfl (by rfl) (.cons rfl rfl (by rfl) .nil))))) ?_
                refine Ys ts161 ?_
                refine Za ?_
                refine Zn hK33 ?_
                refine AC_ret ?_
                exact ret_ok hdm (.cell rfl rfl rfl rfl rfl rfl ts161 ta161 (by rfl) (by intro h; cases h) (.tmp rfl rfl .nil)) (.cons (by exact .agg (.cons .d (.cons .d (.cons .d (.cons .d .nil))))) (.cons .d .nil)) (by (have hx9 : x = _ := of_decide_eq_true (by assumption); subst hx9; exact op_ret rfl))
               ·refine Zk hK2 ?_
                refine Zs fun _ hK34 => ?_
                refine Ze (Ev_build (fs := [.one, .one, .one, .one]) (zs := [.c (.string ⟨#[]⟩), .c (.int .i64 0), .c (.int .i64 0), .c (.int .i64 0)]) tz161 rfl tpl161 .nil) ?_
                refine Ys ts161 ?_
                refine Za ?_
                refine Zn hK34 ?_
                refine AC_ret ?_
                exact ret_ok hdm (.cell rfl rfl rfl rfl rfl rfl ts161 ta161 (by rfl) (by intro h; cases h) (.tmp rfl rfl .nil)) (.cons (by exact .agg (.cons .d (.cons .d (.cons .d (.cons .d .nil))))) (.cons .d .nil)) (by exact op_ret (by simp only [betw]; simp_all only [decide_eq_true_eq, decide_eq_false_iff_not, or_self, if_false, or_false, false_or]))
set_option maxHeartbeats 8000000 in
set_option maxRecDepth 4000 in
theorem c_prefixOf (x : ByteArray) : PCall Tryz.prog 185 [.c (.string x)] (· = [injO (preO x).1, .c (.bool (preO x).2)]) := by
 refine PCall_of (n := 18) Tryz.func185 rfl rfl (Nat.le_of_ble_eq_true rfl) fun C hdm hT0 => ?_
 have hT := hT0
 refine Zs fun _ hK1 => ?_
 refine AL_alloc zo161 _ rfl rfl ?_
 refine Za ?_
 refine Zn hK1 ?_
 refine AC_seq fun _ hK2 => ?_
 refine Zs fun _ hK3 => ?_
 refine Zm ?_
 refine Zn hK3 ?_
 refine AC_block ?_
 refine Zs fun _ hK4 => ?_
 refine Ze (Ev_seql rfl rfl) ?_
 refine Za ?_
 refine Zn hK4 ?_
 refine Zc (fun hc1 => ?_) fun hc1 => ?_
 ·refine Zs fun _ hK5 => ?_
  refine Zm ?_
  refine Ze (Ev_build (fs := [.one, .one, .one, .one]) (zs := [.c (.string ⟨#[]⟩), .c (.int .i64 0), .c (.int .i64 0), .c (.int .i64 0)]) tz161 rfl tpl161 (.cons rfl rfl (by rfl) (.cons rfl rfl (by rfl) (.cons rfl rfl (by rfl) .nil)))) ?_
  refine Ys ts161 ?_
  refine Za ?_
  refine Zn hK5 ?_
  refine AC_ret ?_
  exact ret_ok hdm (.cell rfl rfl rfl rfl rfl rfl ts161 ta161 (by rfl) (by intro h; cases h) (.tmp rfl rfl .nil)) (.cons (by exact .agg (.cons .d (.cons .d (.cons .d (.cons .d .nil))))) (.cons .d .nil)) (by (have hx9 : x = _ := of_decide_eq_true (by assumption); subst hx9; exact op_ret rfl))
 ·refine Zs fun _ hK6 => ?_
  refine Ze (Ev_seql rfl rfl) ?_
  refine Za ?_
  refine Zn hK6 ?_
  refine Zc (fun hc2 => ?_) fun hc2 => ?_
  ·refine Zs fun _ hK7 => ?_
   refine Zm ?_
   refine Ze (Ev_build (fs := [.one, .one, .one, .one]) (zs := [.c (.string ⟨#[]⟩), .c (.int .i64 0), .c (.int .i64 0), .c (.int .i64 0)]) tz161 rfl tpl161 (.cons rfl rfl (by rfl) (.cons rfl rfl (by rfl) (.cons rfl rfl (by rfl) .nil)))) ?_
   refine Ys ts161 ?_
   refine Za ?_
   refine Zn hK7 ?_
   refine AC_ret ?_
   exact ret_ok hdm (.cell rfl rfl rfl rfl rfl rfl ts161 ta161 (by rfl) (by intro h; cases h) (.tmp rfl rfl .nil)) (.cons (by exact .agg (.cons .d (.cons .d (.cons .d (.cons .d .nil))))) (.cons .d .nil)) (by (have hx9 : x = _ := of_decide_eq_true (by assumption); subst hx9; exact op_ret rfl))
  ·refine Zs fun _ hK8 => ?_
   refine Ze (Ev_seql rfl rfl) ?_
   refine Za ?_
   refine Zn hK8 ?_
   refine Zc (fun hc3 => ?_) fun hc3 => ?_
   ·refine Zs fun _ hK9 => ?_
    refine Zm ?_
    refine Ze (Ev_build (fs := [.one, .one, .one, .one]) (zs := [.c (.string ⟨#[]⟩), .c (.int .i64 0), .c (.int .i64 0), .c (.int .i64 0)]) tz161 rfl tpl161 (.cons rfl rfl (by rfl) (.cons rfl rfl (by rfl) (.cons rfl rfl (by rfl) .nil)))) ?_
    refine Ys ts161 ?_
    refine Za ?_
    refine Zn hK9 ?_
    refine AC_ret ?_
    exact ret_ok hdm (.cell rfl rfl rfl rfl rfl rfl ts161 ta161 (by rfl) (by intro h; cases h) (.tmp rfl rfl .nil)) (.cons (by exact .agg (.cons .d (.cons .d (.cons .d (.cons .d .nil))))) (.cons .d .nil)) (by (have hx9 : x = _ := of_decide_eq_true (by assumption); subst hx9; exact op_ret rfl))
   ·refine Zk hK2 ?_
    refine Zs fun _ hK10 => ?_
    refine Ze (Ev_build (fs := [.one, .one, .one, .one]) (zs := [.c (.string ⟨#[]⟩), .c (.int .i64 0), .c (.int .i64 0), .c (.int .i64 0)]) tz161 rfl tpl161 .nil) ?_
    refine Ys ts161 ?_
    refine Za ?_
    refine Zn hK10 ?_
    refine AC_ret ?_
    exact ret_ok hdm (.cell rfl rfl rfl rfl rfl rfl ts161 ta161 (by rfl) (by intro h; cases h) (.tmp rfl rfl .nil)) (.cons (by exact .agg (.cons .d (.cons .d (.cons .d (.cons .d .nil))))) (.cons .d .nil)) (by exact op_ret (by simp only [preO]; simp_all only [decide_eq_true_eq, decide_eq_false_iff_not, or_self, if_false, or_false, false_or]))
set_option maxHeartbeats 1000000 in
set_option maxRecDepth 4000 in
theorem c_mark (xs : List Sg) (s : Rs) (hl : xs.length ≤ 1048576) (w : ByteArray) (hi : s.i ≤ xs.length + 1) : RcC Tryz.prog 173 145 9 xs s [.d (.c (.string w))] (markM xs s w) (fun b => [bl b]) := by
 refine HCallX_of (n := 16) Tryz.func173 rfl rfl (Nat.le_of_ble_eq_true rfl) (Nat.le_of_ble_eq_true rfl) fun C0 o hT => ?_
 refine Zs fun _ hK1 => ?_
 refine Za ?_
 refine Zn hK1 ?_
 refine AC_seq fun _ hK2 => ?_
 refine Zs fun _ hK3 => ?_
 iterate 2 refine Zm ?_
 refine AL_qcall hT rfl cl140 (c_is xs (s) 4 (w) (by omega)) (.cons (.rd (.ptr trivial rfl rfl rfl (.agg (.cons .d (.cons .d (.cons .d (.cons .d (.cons (.ref trivial rfl rfl (by simp) (ReadsL_d _)) .nil)))))))) (.cons (.rd .d) (.cons (.rd .d) .nil))) rfl ?_
 refine Zn hK3 ?_
 refine Zc (fun hc1 => ?_) fun hc1 => ?_
 ·refine Zs fun _ hK4 => ?_
  iterate 2 refine Zm ?_
  refine Ze (Ev_nilc_ptr rfl) ?_
  refine Ya fa145_1 ?_
  refine Yl ts3 ta3 ?_
  refine Ze (Ev_add rfl rfl _ (wrap_id (by omega) (by omega))) ?_
  refine Ze (Ev_nilc_ptr rfl) ?_
  refine Ya fa145_1 ?_
  refine Ys ts3 ?_
  refine Zn hK4 ?_
  refine Zs fun _ hK5 => ?_
  refine Za ?_
  refine Zn hK5 ?_
  refine AC_ret ?_
  exact retr_ok (({ s with i := s.i + 1 }, true)) (by simp [markM, hc1]) [0, 1] (CExt.refl _) (.tmp rfl rfl .nil) rfl rfl (BxF_stay rfl rfl rfl rfl rfl (.cons (.agg (.cons .d (.cons .d (.cons .d (.cons .d (.cons (.ref rfl) .nil)))))) .nil) rfl (BxF_cons rfl rfl rfl rfl rfl (VxL_d _) (Nat.le_refl _) BxF_nil)) (Nat.le_of_ble_eq_true rfl) (.cons .d .nil)
 ·refine Zk hK2 ?_
  refine Zs fun _ hK6 => ?_
  refine Za ?_
  refine Zn hK6 ?_
  refine AC_ret ?_
  exact retr_ok ((s, false)) (by simp [markM, hc1]) [0, 1] (CExt.refl _) (.tmp rfl rfl .nil) rfl rfl (BxF_stay rfl rfl rfl rfl rfl (.cons (.agg (.cons .d (.cons .d (.cons .d (.cons .d (.cons (.ref rfl) .nil)))))) .nil) rfl (BxF_cons rfl rfl rfl rfl rfl (VxL_d _) (Nat.le_refl _) BxF_nil)) (Nat.le_of_ble_eq_true rfl) (.cons .d .nil)
set_option maxHeartbeats 1000000 in
set_option maxRecDepth 4000 in
theorem c_wants (xs : List Sg) (s : Rs) (hl : xs.length ≤ 1048576) (w : ByteArray) (hi : s.i ≤ xs.length + 1) : RcC Tryz.prog 186 145 9 xs s [.d (.c (.string w))] ((wantsM xs s w, ())) (fun _ => []) := by
 refine HCallX_of (n := 11) Tryz.func186 rfl rfl (Nat.le_of_ble_eq_true rfl) (Nat.le_of_ble_eq_true rfl) fun C0 o hT => ?_
 refine Zs fun _ hK1 => ?_
 iterate 2 refine Zm ?_
 refine AL_rcc hT 0 2 rfl cl173 (c_mark xs s hl w hi) rfl (.cons .d .nil) rfl rfl rfl rfl rfl (fun _ => (.cons .d .nil)) rfl ?_
 rintro ⟨s1, t1⟩ hz1
 refine Ze (Ev_not rfl) ?_
 refine Zn hK1 ?_
 refine Zc (fun hc1 => ?_) fun hc1 => ?_
 ·have ht1 : t1 = false := by cases t1 with | true => cases hc1 | false => rfl
  subst ht1
  have hm : isM xs s 4 w = false := by cases e : isM xs s 4 w with | false => rfl | true => simp [markM, e] at hz1
  have hs1 : s1 = s := by simp [markM, hm] at hz1; exact hz1
  refine AC_region ?_
  refine Zm ?_
  refine Ze (Ev_nilc_ptr rfl) ?_
  refine Ya fa145_2 ?_
  refine Ys ts4 ?_
  refine AL_nil ?_
  exact retr_end (({ s1 with bad := true }, ())) (by subst hs1; simp [wantsM, hm]) [2, 3] (CExt.refl _) .nil rfl rfl (BxF_stay rfl rfl rfl rfl rfl (.cons (.agg (.cons .d (.cons .d (.cons .d (.cons .d (.cons (.ref rfl) .nil)))))) .nil) rfl (BxF_cons rfl rfl rfl rfl rfl (VxL_d _) (Nat.le_refl _) BxF_nil)) (Nat.le_of_ble_eq_true rfl) .nil
 ·have ht1 : t1 = true := by cases t1 with | true => rfl | false => cases hc1
  subst ht1
  have hm : isM xs s 4 w = true := by cases e : isM xs s 4 w with | true => rfl | false => simp [markM, e] at hz1
  have hs1 : s1 = { s with i := s.i + 1 } := by simp [markM, hm] at hz1; exact hz1
  refine AC_skip ?_
  exact retr_end ((s1, ())) (by subst hs1; simp [wantsM, hm]) [2, 3] (CExt.refl _) .nil rfl rfl (BxF_stay rfl rfl rfl rfl rfl (.cons (.agg (.cons .d (.cons .d (.cons .d (.cons .d (.cons (.ref rfl) .nil)))))) .nil) rfl (BxF_cons rfl rfl rfl rfl rfl (VxL_d _) (Nat.le_refl _) BxF_nil)) (Nat.le_of_ble_eq_true rfl) .nil
set_option maxHeartbeats 4000000 in
set_option maxRecDepth 4000 in
theorem c_variable (xs : List Sg) (s : Rs) (hl : xs.length ≤ 1048576) (w : ByteArray) (hn : s.ns.length ≤ 1048577) : RcC Tryz.prog 176 145 9 xs s [.d (.c (.string w))] (varM s w) (fun t => [.d (inj t)]) := by
 refine HCallX_of (n := 45) Tryz.func176 rfl rfl (Nat.le_of_ble_eq_true rfl) (Nat.le_of_ble_eq_true rfl) fun C0 o hT => ?_
 refine Zs fun _ hK1 => ?_
 refine AL_alloc zo41 _ rfl rfl ?_
 refine Zn hK1 ?_
 refine AC_seq fun _ hK2 => ?_
 refine Zs fun _ hK3 => ?_
 refine Zm ?_
 refine Ze (Ev_sneq rfl rfl) ?_
 refine Zn hK3 ?_
 refine Zc (fun hc1 => ?_) fun hc1 => ?_
 ·refine Zs fun _ hK4 => ?_
  refine Za ?_
  refine Zn hK4 ?_
  refine AC_block ?_
  refine AC_loopS [0, 1, 4] (Nat) (fun j => [(5, i64 ((j : Nat) : Int))]) (fun _ => [some (rBox ⟨145, some (o 0)⟩ 1 xs s), some (nBox 9 s), some ⟨41, LT, [.d zT]⟩]) (fun j => s.ns.length - j) (fun j => j ≤ s.ns.length ∧ findV s.ns w 0 = findV (s.ns.drop j) w j) (0) ?_ ?_ ?_
  ·exact enterS [some 0, some 1, some 2] rfl rfl (Bx (.cons (.agg (.cons (.rd .d) (.cons (.rd .d) (.cons (.rd .d) (.cons (.rd .d) (.cons (.ref rfl) .nil)))))) .nil) (Bx (VwL_d _) (Bx (.cons (.rd .d) .nil) BxTo_nil))) Sl_
  ·exact ⟨Nat.zero_le _, rfl⟩
  rintro j ⟨hj0, hI⟩
  refine AC_seq fun _ hK5 => ?_
  refine Zs fun _ hK6 => ?_
  iterate 2 refine Zm ?_
  refine Ze (Ev_nilc_ptr rfl) ?_
  refine Ya fa145_4 ?_
  refine Yl ts25 ta25 ?_
  refine AL_limB (x := (Operand.tmp 12)) rfl rfl (by (simp; done)) fun hl1 => ?_
  refine Ze (Ev_len_ref te25 rfl) ?_
  refine Ze (Ev_lss rfl rfl) ?_
  refine Zn hK6 ?_
  refine Zc (fun hc2 => ?_) fun hc2 => ?_
  ·have hlt : j < s.ns.length := by have := of_decide_eq_true hc2; omega
   refine Exists.elim (show ∃ u, s.ns[j]? = some u from ⟨_, List.getElem?_eq_getElem hlt⟩) fun u hu => ?_
   have hes : ((strs s.ns).map V.d)[0 + ((j : Nat) : Int).toNat]? = some (.d (.c (.string u))) := by rw [Int.toNat_natCast, Nat.zero_add]; simp [strs, hu]
   have hdr := drop_get hu
   refine Zk hK5 ?_
   refine AC_seq fun _ hK7 => ?_
   refine AC_block ?_
   refine Zs fun _ hK8 => ?_
   refine Zm ?_
   refine Ze (Ev_nilc_ptr rfl) ?_
   refine Ya fa145_4 ?_
   refine Yl ts25 ta25 ?_
   refine Zm ?_
   refine Ze (Ev_ix_ref rfl rfl te25 ts9 (by omega) (by omega)) ?_
   refine Ze (Ev_load_ptr rfl rfl rfl hes rfl rfl ts9 ta9 rfl (fun _ => rfl)) ?_
   refine Zm ?_
   refine Ze (Ev_seql rfl rfl) ?_
   refine Zn hK8 ?_
   refine Zc (fun hc3 => ?_) fun hc3 => ?_
   ·refine Zs fun _ hK9 => ?_
    refine Zm ?_
    refine AL_fcall0 hT rfl cl118 (c_var03 ((j : Nat) : Int)) rfl rfl ?_
    refine Ys ts41 ?_
    refine Zn hK9 ?_
    refine AC_ret ?_
    exact retr_ok ((s, .mk 1 ⟨#[]⟩ ((j : Nat) : Int) [])) (by simp only [varM]; simp_all [findV]) [0, 1] (CExt.refl _) (.cell rfl rfl rfl rfl rfl rfl ts41 ta41 (by rfl) (by intro h; cases h) .nil) rfl rfl (BxF_stay rfl rfl rfl rfl rfl (.cons (.agg (.cons .d (.cons .d (.cons .d (.cons .d (.cons (.ref rfl) .nil)))))) .nil) rfl (BxF_cons rfl rfl rfl rfl rfl (VxL_d _) (Nat.le_refl _) BxF_nil)) (Nat.le_of_ble_eq_true rfl) (.cons .d .nil)
   ·refine Zk hK7 ?_
    refine AC_region ?_
    refine Zm ?_
    refine Ze (Ev_add rfl rfl _ (wrap_id (by omega) (by omega))) ?_
    refine Za ?_
    refine AL_nil ?_
    refine closeS (j + 1) [some 0, some 1, some 2] rfl rfl (by show s.ns.length - (j + 1) < s.ns.length - j; omega) ⟨by omega, by rw [hI, hdr]; simp_all [findV]⟩ (Bx (.cons (.agg (.cons (.rd .d) (.cons (.rd .d) (.cons (.rd .d) (.cons (.rd .d) (.cons (.ref rfl) .nil)))))) .nil) (Bx (VwL_d _) (Bx (.cons (.rd .d) .nil) BxTo_nil))) Sl_
  ·have hj2 : j = s.ns.length := by have := of_decide_eq_false hc2; omega
   have hno : findV s.ns w 0 = none := by rw [hI, hj2, List.drop_length]; rfl
   refine Zx hK2 ?_
   refine Zs fun _ hK10 => ?_
   iterate 2 refine Zm ?_
   refine Ze (Ev_nilc_ptr rfl) ?_
   refine Ya fa145_4 ?_
   refine Yl ts25 ta25 ?_
   refine Zm ?_
   refine AL_bD .one rfl te25 ts9 tz9 rfl rfl (by decide) (by decide) (by rfl) rfl ?_
   refine AL_append rfl rfl rfl te25 ts9 tz9 rfl tb9 (by decide) (by decide) rfl (by (simp; done)) (Src_sl rfl) (by simp only [lim]; (simp; omega)) _ rfl rfl ?_
   refine Ze (Ev_nilc_ptr rfl) ?_
   refine Ya fa145_4 ?_
   refine Ys ts25 ?_
   refine Zn hK10 ?_
   refine Zs fun _ hK11 => ?_
   refine Zm ?_
   refine Ze (Ev_nilc_ptr rfl) ?_
   refine Ya fa145_4 ?_
   refine Yl ts25 ta25 ?_
   refine AL_limB (x := (Operand.tmp 41)) rfl rfl (by (simp; done)) fun hl2 => ?_
   try simp only [injs_length, ints_length, strs_length, injCs_length, u8s_length, List.length_map] at hl2
   refine Ze (Ev_len_ref te25 rfl) ?_
   refine Ze (Ev_sub rfl rfl _ (wrap_id (by omega) (by (simp; omega)))) ?_
   refine AL_fcall0 hT rfl cl118 (c_var03 _) rfl rfl ?_
   refine Ys ts41 ?_
   refine Zn hK11 ?_
   refine AC_ret ?_
   exact retr_ok (({ s with ns := s.ns ++ [w] }, .mk 1 ⟨#[]⟩ s.ns.length [])) (by have hq : ¬ w = ⟨#[95]⟩ := (by simpa using hc1); simp only [varM]; rw [if_neg hq, hno]) [0, 3] (CExt.refl _) (.cell rfl rfl rfl rfl rfl rfl ts41 ta41 (by rfl) (by intro h; cases h) .nil) rfl rfl (BxF_stay rfl rfl rfl rfl rfl (.cons (.agg (.cons .d (.cons .d (.cons .d (.cons .d (.cons (Vx_refe rfl (by simp)) .nil)))))) .nil) rfl (BxF_cons rfl rfl rfl rfl rfl (VxL_ds (by simp [strs])) (Nat.le_refl _) BxF_nil)) (Nat.le_of_ble_eq_true rfl) (VxL_d1 (by simp))
 ·refine Zk hK2 ?_
  refine Zs fun _ hK12 => ?_
  iterate 2 refine Zm ?_
  refine Ze (Ev_nilc_ptr rfl) ?_
  refine Ya fa145_4 ?_
  refine Yl ts25 ta25 ?_
  refine Zm ?_
  refine AL_bD .one rfl te25 ts9 tz9 rfl rfl (by decide) (by decide) (by rfl) rfl ?_
  refine AL_append rfl rfl rfl te25 ts9 tz9 rfl tb9 (by decide) (by decide) rfl (by (simp; done)) (Src_sl rfl) (by simp only [lim]; (simp; omega)) _ rfl rfl ?_
  refine Ze (Ev_nilc_ptr rfl) ?_
  refine Ya fa145_4 ?_
  refine Ys ts25 ?_
  refine Zn hK12 ?_
  refine Zs fun _ hK13 => ?_
  refine Zm ?_
  refine Ze (Ev_nilc_ptr rfl) ?_
  refine Ya fa145_4 ?_
  refine Yl ts25 ta25 ?_
  refine AL_limB (x := (Operand.tmp 41)) rfl rfl (by (simp; done)) fun hl3 => ?_
  try simp only [injs_length, ints_length, strs_length, injCs_length, u8s_length, List.length_map] at hl3
  refine Ze (Ev_len_ref te25 rfl) ?_
  refine Ze (Ev_sub rfl rfl _ (wrap_id (by omega) (by (simp; omega)))) ?_
  refine AL_fcall0 hT rfl cl118 (c_var03 _) rfl rfl ?_
  refine Ys ts41 ?_
  refine Zn hK13 ?_
  refine AC_ret ?_
  exact retr_ok (({ s with ns := s.ns ++ [w] }, .mk 1 ⟨#[]⟩ s.ns.length [])) (by have hq : w = ⟨#[95]⟩ := (by simpa using hc1); simp only [varM]; rw [if_pos hq]) [0, 3] (CExt.refl _) (.cell rfl rfl rfl rfl rfl rfl ts41 ta41 (by rfl) (by intro h; cases h) .nil) rfl rfl (BxF_stay rfl rfl rfl rfl rfl (.cons (.agg (.cons .d (.cons .d (.cons .d (.cons .d (.cons (Vx_refe rfl (by simp)) .nil)))))) .nil) rfl (BxF_cons rfl rfl rfl rfl rfl (VxL_ds (by simp [strs])) (Nat.le_refl _) BxF_nil)) (Nat.le_of_ble_eq_true rfl) (VxL_d1 (by simp))
end Go.Proofs.YtjgliechbnommaaGreatDoor
set_option linter.unusedVariables false
set_option linter.unusedSimpArgs false
namespace Go.Proofs.YtjgliechbnommaaGreatDoor
open Go.Eng
theorem cl139 : Callable Tryz.prog 139 := Zq Tryz.func139
theorem cl186 : Callable Tryz.prog 186 := Zq Tryz.func186
set_option maxHeartbeats 4000000 in
set_option maxRecDepth 4000 in
theorem c_some (xs : List Sg) (s : Rs) (hl : xs.length ≤ 1048576) (d : Int) (n : Nat) (tm : Int → Rs → Rs × T) (htm : TmC Tryz.prog 139 145 9 xs d n tm) (hok : TmOk xs d n tm) (w : ByteArray) (hs : Okr xs d s) (hn : s.bad = false → xs.length + 2 ≤ n + s.i) (M : Rs × List T) (hM : someM xs tm (xs.length + 3) s [] = M) : RcC Tryz.prog 183 145 9 xs s [.d (.c (.string w))] ((M.1, .mk 4 w 0 M.2)) (fun t => [.d (inj t)]) := by
 refine HCallX_of (n := 34) Tryz.func183 rfl rfl (Nat.le_of_ble_eq_true rfl) (Nat.le_of_ble_eq_true rfl) fun C0 o hT => ?_
 refine Zs fun _ hK1 => ?_
 refine AL_alloc zo41 _ rfl rfl ?_
 refine Zn hK1 ?_
 refine Zs fun _ hK2 => ?_
 refine Zm ?_
 refine Ze (Ev_build (fs := [.one, .one, .one, .one]) (zs := [.c (.int .i64 0), .c (.string ⟨#[]⟩), .c (.int .i64 0), .c (.slice none 0 0)]) tz41 rfl tpl41 (.cons rfl rfl (by rfl) (.cons rfl rfl (by rfl) .nil))) ?_
 refine AL_alloc zo41 _ rfl rfl ?_
 refine Ys ts41 ?_
 refine Zn hK2 ?_
 refine AC_seq fun _ hK3 => ?_
 refine AC_block ?_
 refine AC_loopS [] (Nat × Rs × List T) (fun q => [(0, .ptr LRD 0 0 []), (4, .ptr LT 2 0 []), (5, .ptr LT 3 0 [])]) (fun q => [some (rBox ⟨145, some (o 0)⟩ 1 xs q.2.1), some (nBox 9 q.2.1), some ⟨41, LT, [.d zT]⟩, some ⟨41, LT, [.agg [.one, .one, .one, .one] [.d (.c (.int .i64 4)), .d (.c (.string w)), .d (.c (.int .i64 0)), .ref LT 4 0 q.2.2.length]]⟩, some ⟨41, LT, (injs q.2.2).map V.d⟩]) (fun q => q.1) (fun q => someM xs tm q.1 q.2.1 q.2.2 = M ∧ Okr xs d q.2.1 ∧ (q.2.1.bad = false → xs.length + 2 ≤ q.1 + q.2.1.i ∧ xs.length + 2 ≤ n + q.2.1.i) ∧ q.2.2.length ≤ 5) ((xs.length + 3, s, [])) ?_ ?_ ?_
 ·refine Wk.then (Wk_nil_box 3 0 [3] 41 LT rfl rfl rfl rfl 4 rfl rfl ?_)
  exact enterS [some 0, some 1, some 2, some 3, some 4] rfl rfl (Bx (.cons (.agg (.cons (.rd .d) (.cons (.rd .d) (.cons (.rd .d) (.cons (.rd .d) (.cons (.ref rfl) .nil)))))) .nil) (Bx (VwL_d _) (Bx (.cons (.rd .d) .nil) (Bx (.cons (.agg (.cons (.rd .d) (.cons (.rd .d) (.cons (.rd .d) (.cons (.ref rfl) .nil))))) .nil) (Bx .nil BxTo_nil))))) Sl_
 ·exact ⟨hM, hs, fun h => ⟨by show xs.length + 2 ≤ xs.length + 3 + s.i; omega, hn h⟩, by show 0 ≤ 5; omega⟩
 rintro ⟨m, s0, ks⟩ ⟨hI, hok0, hf0, hk0⟩
 simp only at hI hok0 hf0 hk0
 refine AC_seq fun _ hK4 => ?_
 refine Zs fun _ hK5 => ?_
 refine Zm ?_
 refine Ze (Ev_nilc_ptr rfl) ?_
 refine Ya fa145_2 ?_
 refine Yl ts4 ta4 ?_
 refine Ze (Ev_not rfl) ?_
 refine Zn hK5 ?_
 refine Zc (fun hc1 => ?_) fun hc1 => ?_
 ·have hb0 : s0.bad = false := by simpa using hc1
  have hfb := hf0 hb0
  have hi9 := hok0.hi
  refine Exists.elim (show ∃ m1, m = m1 + 1 from ⟨m - 1, by omega⟩) fun m1 hm1 => ?_
  subst hm1
  have hp1 := hok 999 s0 hok0 hb0 hfb.2
  simp only [someM, hb0, Bool.false_eq_true, if_false] at hI
  refine Zk hK4 ?_
  refine AC_block ?_
  refine Zs fun _ hK6 => ?_
  refine Zm ?_
  refine AL_rcc hT 0 5 rfl cl139 (htm 999 s0 hok0 hb0 hfb.2) rfl (.cons .d .nil) rfl rfl rfl rfl rfl (fun _ => (.cons .d .nil)) rfl ?_
  rintro ⟨s1, t1⟩ hz1
  rw [← hz1] at hI hp1
  try simp only at hI
  try simp only at hp1
  have hq1 := hp1.ok
  have hi1 := hq1.hi
  have hle1 := hp1.le
  have hlt1 := hp1.lt
  refine AL_alloc zo41 _ rfl rfl ?_
  refine Ys ts41 ?_
  refine Zn hK6 ?_
  refine AC_seq fun _ hK7 => ?_
  refine Zs fun _ hK8 => ?_
  refine Ya fa41_3 ?_
  refine Yl ts39 ta39 ?_
  refine AL_limB (x := (Operand.tmp 17)) rfl rfl (by (simp; done)) fun hl1 => ?_
  try simp only [injs_length, ints_length, strs_length, injCs_length, u8s_length, List.length_map] at hl1
  refine Ze (Ev_len_ref te39 rfl) ?_
  refine Ze (Ev_geq rfl rfl) ?_
  refine Zn hK8 ?_
  refine Zc (fun hc2 => ?_) fun hc2 => ?_
  ·have h5 : 5 ≤ ks.length := by have h := of_decide_eq_true hc2; exact Int.ofNat_le.1 h
   rw [if_pos h5] at hI
   refine Zs fun _ hK9 => ?_
   refine Zm ?_
   refine Ze (Ev_nilc_ptr rfl) ?_
   refine Ya fa145_2 ?_
   refine Ys ts4 ?_
   refine Zn hK9 ?_
   refine Zx hK3 ?_
   refine Zs fun _ hK10 => ?_
   refine YL ts41 ta41 ?_
   refine Ys ts41 ?_
   refine Zn hK10 ?_
   refine AC_ret ?_
   refine fin_of_wk (enterS (ks := []) (g := fun _ => V.any) (ms := [(4, .ptr LT 2 0 [])]) (L2 := [some (rBox ⟨145, some (o 0)⟩ 1 xs ({ s1 with bad := true })), some (nBox 9 ({ s1 with bad := true })), some ⟨41, LT, [.d (inj (.mk 4 w 0 ks))]⟩]) [some 5, some 6, some 2] rfl rfl (Bx (.cons (.agg (.cons (.rd .d) (.cons (.rd .d) (.cons (.rd .d) (.cons (.rd .d) (.cons (.ref rfl) .nil)))))) .nil) (Bx (VwL_d _) (BxTo_some rfl rfl rfl rfl (.cons (.rd (.agg (.cons .d (.cons .d (.cons .d (.cons (.ref (srcFree rfl) rfl rfl (by simp) (ReadsL_d _)) .nil)))))) .nil) BxTo_nil))) Sl_) ?_
   rintro f L ⟨rfl, rfl⟩
   exact retr_ok (({ s1 with bad := true }, .mk 4 w 0 ks)) (by rw [← hI]) [0, 1] (CExt.refl _) (.cell rfl rfl rfl rfl rfl rfl ts41 ta41 (by rfl) (by intro h; cases h) .nil) rfl rfl (BxF_stay rfl rfl rfl rfl rfl (.cons (.agg (.cons .d (.cons .d (.cons .d (.cons .d (.cons (.ref rfl) .nil)))))) .nil) rfl (BxF_cons rfl rfl rfl rfl rfl (VxL_d _) (Nat.le_refl _) BxF_nil)) (Nat.le_of_ble_eq_true rfl) (.cons .d .nil)
  ·have h5 : ¬ 5 ≤ ks.length := fun h => of_decide_eq_false hc2 (Int.ofNat_le.2 h)
   rw [if_neg h5] at hI
   refine Zk hK7 ?_
   refine Zs fun _ hK11 => ?_
   refine Ya fa41_3 ?_
   refine Yl ts39 ta39 ?_
   refine YL ts41 ta41 ?_
   refine AL_bD (Lay.st [.one, .one, .one, .one]) rfl te39 ts41 tz41 rfl rfl (by decide) (by decide) (by simp [lenDs, goodVs, goodV, V.known, Lay.len, Lay.lens]) rfl ?_
   refine AL_append rfl rfl rfl te39 ts41 tz41 rfl tb41 (by decide) (by decide) rfl (by (simp; done)) (Src_sl rfl) (by simp only [lim]; (simp; omega)) _ rfl rfl ?_
   refine Ya fa41_3 ?_
   refine Ys ts39 ?_
   refine Zn hK11 ?_
   refine AC_seq fun _ hK12 => ?_
   refine Zs fun _ hK13 => ?_
   refine Zm ?_
   refine AL_rcc hT 5 9 rfl cl173 (c_mark xs s1 hl ⟨#[41]⟩ hi1) rfl (.cons .d .nil) rfl rfl rfl rfl rfl (fun _ => (.cons .d .nil)) rfl ?_
   rintro ⟨s2, t2⟩ hz2
   refine Zn hK13 ?_
   refine Zc (fun hc3 => ?_) fun hc3 => ?_
   ·subst hc3
    have hm2 := mark_t hz2
    rw [if_pos hm2.1] at hI
    refine Zx hK3 ?_
    refine Zs fun _ hK14 => ?_
    refine YL ts41 ta41 ?_
    refine Ys ts41 ?_
    refine Zn hK14 ?_
    refine AC_ret ?_
    refine fin_of_wk (enterS (ks := []) (g := fun _ => V.any) (ms := [(4, .ptr LT 2 0 [])]) (L2 := [some (rBox ⟨145, some (o 0)⟩ 1 xs (s2)), some (nBox 9 (s2)), some ⟨41, LT, [.d (inj (.mk 4 w 0 (ks ++ [t1])))]⟩]) [some 9, some 10, some 2] rfl rfl (Bx (.cons (.agg (.cons (.rd .d) (.cons (.rd .d) (.cons (.rd .d) (.cons (.rd .d) (.cons (.ref rfl) .nil)))))) .nil) (Bx (VwL_d _) (BxTo_some rfl rfl rfl rfl (.cons (.rd (.agg (.cons .d (.cons .d (.cons .d (.cons (.ref (srcFree rfl) rfl rfl (by simp) (ReadsL_eq (by simp [injs_map]))) .nil)))))) .nil) BxTo_nil))) Sl_) ?_
    rintro f L ⟨rfl, rfl⟩
    exact retr_ok ((s2, .mk 4 w 0 (ks ++ [t1]))) (by rw [← hI, hm2.2]) [0, 1] (CExt.refl _) (.cell rfl rfl rfl rfl rfl rfl ts41 ta41 (by rfl) (by intro h; cases h) .nil) rfl rfl (BxF_stay rfl rfl rfl rfl rfl (.cons (.agg (.cons .d (.cons .d (.cons .d (.cons .d (.cons (.ref rfl) .nil)))))) .nil) rfl (BxF_cons rfl rfl rfl rfl rfl (VxL_d _) (Nat.le_refl _) BxF_nil)) (Nat.le_of_ble_eq_true rfl) (.cons .d .nil)
   ·subst hc3
    have hm2 := mark_f hz2
    rw [if_neg (by rw [hm2.1]; decide)] at hI
    refine Zk hK12 ?_
    refine AC_region ?_
    refine Zm ?_
    refine AL_rcc hT 9 11 rfl cl186 (c_wants xs s2 hl ⟨#[44]⟩ (by rw [hm2.2]; exact hi1)) rfl (.cons .d .nil) rfl rfl rfl rfl rfl (fun _ => .nil) rfl ?_
    rintro ⟨s3, t3⟩ hz3
    have hs3 : s3 = wantsM xs s1 ⟨#[44]⟩ := by rw [← hm2.2]; exact congrArg Prod.fst hz3
    have hw3 := wants_ok ⟨#[44]⟩ hq1
    rw [← hs3] at hw3 hI
    refine AL_nil ?_
    refine closeS (m1, s3, ks ++ [t1]) [some 11, some 12, some 2, some 3, some 8] rfl rfl (Nat.lt_succ_self _) ⟨hI, hw3.1, fun h => ⟨by have a := hw3.2.2.2 h; have b := hlt1 a.1; show xs.length + 2 ≤ m1 + s3.i; omega, by have a := hw3.2.2.2 h; have b := hlt1 a.1; show xs.length + 2 ≤ n + s3.i; omega⟩, by show (ks ++ [t1]).length ≤ 5; simp; omega⟩ (Bx (.cons (.agg (.cons (.rd .d) (.cons (.rd .d) (.cons (.rd .d) (.cons (.rd .d) (.cons (.ref rfl) .nil)))))) .nil) (Bx (VwL_d _) (Bx (.cons (.rd .d) .nil) (BxTo_some rfl rfl rfl rfl (.cons (.agg (.cons (.rd .d) (.cons (.rd .d) (.cons (.rd .d) (.cons (Vw_refe rfl (by simp)) .nil))))) .nil) (BxTo_some rfl rfl rfl rfl (VwL_app (by simp [injs_map])) BxTo_nil))))) Sl_
 ·have hb0 : s0.bad = true := by simpa using hc1
  have hE : M = (s0, ks) := by rw [← hI]; cases m <;> simp [someM, hb0]
  refine Zx hK3 ?_
  refine Zs fun _ hK15 => ?_
  refine YL ts41 ta41 ?_
  refine Ys ts41 ?_
  refine Zn hK15 ?_
  refine AC_ret ?_
  refine fin_of_wk (enterS (ks := []) (g := fun _ => V.any) (ms := [(4, .ptr LT 2 0 [])]) (L2 := [some (rBox ⟨145, some (o 0)⟩ 1 xs (s0)), some (nBox 9 (s0)), some ⟨41, LT, [.d (inj (.mk 4 w 0 ks))]⟩]) [some 0, some 1, some 2] rfl rfl (Bx (.cons (.agg (.cons (.rd .d) (.cons (.rd .d) (.cons (.rd .d) (.cons (.rd .d) (.cons (.ref rfl) .nil)))))) .nil) (Bx (VwL_d _) (BxTo_some rfl rfl rfl rfl (.cons (.rd (.agg (.cons .d (.cons .d (.cons .d (.cons (.ref (srcFree rfl) rfl rfl (by simp) (ReadsL_d _)) .nil)))))) .nil) BxTo_nil))) Sl_) ?_
  rintro f L ⟨rfl, rfl⟩
  exact retr_ok ((s0, .mk 4 w 0 ks)) (by rw [hE]) [0, 1] (CExt.refl _) (.cell rfl rfl rfl rfl rfl rfl ts41 ta41 (by rfl) (by intro h; cases h) .nil) rfl rfl (BxF_stay rfl rfl rfl rfl rfl (.cons (.agg (.cons .d (.cons .d (.cons .d (.cons .d (.cons (.ref rfl) .nil)))))) .nil) rfl (BxF_cons rfl rfl rfl rfl rfl (VxL_d _) (Nat.le_refl _) BxF_nil)) (Nat.le_of_ble_eq_true rfl) (.cons .d .nil)
set_option maxHeartbeats 8000000 in
set_option maxRecDepth 4000 in
theorem c_row (xs : List Sg) (s : Rs) (hl : xs.length ≤ 1048576) (d : Int) (n : Nat) (tm : Int → Rs → Rs × T) (htm : TmC Tryz.prog 139 145 9 xs d n tm) (hok : TmOk xs d n tm) (hs : Okr xs d s) (hb : s.bad = false) (hn : xs.length + 2 ≤ n + s.i) (M : Rs × List T × T) (hM : rowL xs tm (xs.length + 3) s [] = M) : RcC Tryz.prog 175 145 9 xs s [] (rowM xs tm s) (fun t => [.d (inj t)]) := by
 refine HCallX_of (n := 45) Tryz.func175 rfl rfl (Nat.le_of_ble_eq_true rfl) (Nat.le_of_ble_eq_true rfl) fun C0 o hT => ?_
 refine Zs fun _ hK1 => ?_
 refine AL_alloc zo41 _ rfl rfl ?_
 refine Zn hK1 ?_
 refine AC_seq fun _ hK2 => ?_
 refine Zs fun _ hK3 => ?_
 refine Zm ?_
 refine AL_rcc hT 0 3 rfl cl173 (c_mark xs s hl ⟨#[93]⟩ hs.hi) rfl (.cons .d .nil) rfl rfl rfl rfl rfl (fun _ => (.cons .d .nil)) rfl ?_
 rintro ⟨s1, t1⟩ hz1
 refine Zn hK3 ?_
 refine Zc (fun hc1 => ?_) fun hc1 => ?_
 ·subst hc1
  have hm1 := mark_t hz1
  refine Zs fun _ hK4 => ?_
  refine AL_fcall0 hT rfl cl58 (c_atom03 nmNil) rfl rfl ?_
  refine Ys ts41 ?_
  refine Zn hK4 ?_
  refine AC_ret ?_
  exact retr_ok ((s1, atom0 nmNil)) (by simp only [rowM]; rw [if_pos hm1.1, hm1.2]) [3, 4] (CExt.refl _) (.cell rfl rfl rfl rfl rfl rfl ts41 ta41 (by rfl) (by intro h; cases h) .nil) rfl rfl (BxF_stay rfl rfl rfl rfl rfl (.cons (.agg (.cons .d (.cons .d (.cons .d (.cons .d (.cons (.ref rfl) .nil)))))) .nil) rfl (BxF_cons rfl rfl rfl rfl rfl (VxL_d _) (Nat.le_refl _) BxF_nil)) (Nat.le_of_ble_eq_true rfl) (.cons .d .nil)
 ·subst hc1
  have hm1 := mark_f hz1
  refine Zk hK2 ?_
  refine Zs fun _ hK5 => ?_
  refine AL_bV (Lay.st [.one, .one, .one, .one]) rfl te39 ts41 tz41 rfl rfl (by decide) (by decide) (by rfl) _ rfl rfl ?_
  refine Za ?_
  refine Zn hK5 ?_
  refine Zs fun _ hK6 => ?_
  refine AL_fcall0 hT rfl cl58 (c_atom03 nmNil) rfl rfl ?_
  refine AL_alloc zo41 _ rfl rfl ?_
  refine Ys ts41 ?_
  refine Zn hK6 ?_
  refine AC_seqJ (fun f L => f = FS [] (fun _ => V.any) [(0, .ptr LRD 0 0 []), (2, .ptr LT 2 0 []), (3, .d (.sl LT (injs M.2.1))), (4, .ptr LT 3 0 [])] ∧ L = [some (rBox ⟨145, some (o 0)⟩ 1 xs M.1), some (nBox 9 M.1), some ⟨41, LT, [.d zT]⟩, some ⟨41, LT, [.d (inj M.2.2)]⟩]) ?_ ?_
  ·refine AC_block ?_
   refine AC_loopS [] (Nat × Rs × List T) (fun q => [(0, .ptr LRD 0 0 []), (2, .ptr LT 2 0 []), (3, .ref LT 3 0 q.2.2.length), (4, .ptr LT 4 0 [])]) (fun q => [some (rBox ⟨145, some (o 0)⟩ 1 xs q.2.1), some (nBox 9 q.2.1), some ⟨41, LT, [.d zT]⟩, some ⟨41, LT, (injs q.2.2).map V.d⟩, some ⟨41, LT, [.d (inj (atom0 nmNil))]⟩]) (fun q => q.1) (fun q => rowL xs tm q.1 q.2.1 q.2.2 = M ∧ Okr xs d q.2.1 ∧ (q.2.1.bad = false → xs.length + 2 ≤ q.1 + q.2.1.i ∧ xs.length + 2 ≤ n + q.2.1.i) ∧ q.2.2.length + q.1 = xs.length + 3) ((xs.length + 3, s1, [])) ?_ ?_ ?_
   ·exact enterS [some 3, some 4, some 2, some 5, some 6] rfl rfl (Bx (.cons (.agg (.cons (.rd .d) (.cons (.rd .d) (.cons (.rd .d) (.cons (.rd .d) (.cons (.ref rfl) .nil)))))) .nil) (Bx (VwL_d _) (Bx (.cons (.rd .d) .nil) (Bx .nil (Bx (.cons (.rd .d) .nil) BxTo_nil))))) Sl_
   ·exact ⟨by show rowL xs tm (xs.length + 3) s1 [] = M; rw [hm1.2]; exact hM, by show Okr xs d s1; rw [hm1.2]; exact hs, fun h => ⟨by show xs.length + 2 ≤ xs.length + 3 + s1.i; omega, by show xs.length + 2 ≤ n + s1.i; rw [hm1.2]; exact hn⟩, by show 0 + (xs.length + 3) = xs.length + 3; omega⟩
   rintro ⟨m, s0, ks⟩ ⟨hI, hok0, hf0, hk0⟩
   simp only at hI hok0 hf0 hk0
   refine AC_seq fun _ hK8 => ?_
   refine Zs fun _ hK9 => ?_
   refine Zm ?_
   refine Ze (Ev_nilc_ptr rfl) ?_
   refine Ya fa145_2 ?_
   refine Yl ts4 ta4 ?_
   refine Ze (Ev_not rfl) ?_
   refine Zn hK9 ?_
   refine Zc (fun hc2 => ?_) fun hc2 => ?_
   ·have hb0 : s0.bad = false := by simpa using hc2
    have hfb := hf0 hb0
    have hi9 := hok0.hi
    refine Exists.elim (show ∃ m1, m = m1 + 1 from ⟨m - 1, by omega⟩) fun m1 hm1 => ?_
    subst hm1
    have hp2 := hok 999 s0 hok0 hb0 hfb.2
    simp only [rowL, hb0, Bool.false_eq_true, if_false] at hI
    refine Zk hK8 ?_
    refine AC_block ?_
    refine Zs fun _ hK10 => ?_
    iterate 2 refine Zm ?_
    refine AL_rcc hT 0 5 rfl cl139 (htm 999 s0 hok0 hb0 hfb.2) rfl (.cons .d .nil) rfl rfl rfl rfl rfl (fun _ => (.cons .d .nil)) rfl ?_
    rintro ⟨s2, t2⟩ hz2
    rw [← hz2] at hI hp2
    try simp only at hI
    try simp only at hp2
    have hq2 := hp2.ok
    have hi2 := hq2.hi
    have hle2 := hp2.le
    have hlt2 := hp2.lt
    refine AL_bD (Lay.st [.one, .one, .one, .one]) rfl te39 ts41 tz41 rfl rfl (by decide) (by decide) (by simp [lenDs, goodVs, goodV, V.known, Lay.len, Lay.lens]) rfl ?_
    refine AL_append rfl rfl rfl te39 ts41 tz41 rfl tb41 (by decide) (by decide) rfl (by (simp; done)) (Src_sl rfl) (by simp only [lim]; (simp; omega)) _ rfl rfl ?_
    refine Za ?_
    refine Zn hK10 ?_
    refine AC_seq fun _ hK11 => ?_
    refine AC_seq fun _ hK12 => ?_
    refine AC_wk (Wk_to [some 5, some 6, some 2, some 7, some 4] [(0, .ptr LRD 0 0 []), (2, .ptr LT 2 0 []), (3, .ref LT 3 0 (ks ++ [t2]).length), (4, .ptr LT 4 0 [])] [some (rBox ⟨145, some (o 0)⟩ 1 xs s2), some (nBox 9 s2), some ⟨41, LT, [.d zT]⟩, some ⟨41, LT, (injs (ks ++ [t2])).map V.d⟩, some ⟨41, LT, [.d (inj (atom0 nmNil))]⟩] rfl rfl (Bx (.cons (.agg (.cons (.rd .d) (.cons (.rd .d) (.cons (.rd .d) (.cons (.rd .d) (.cons (.ref rfl) .nil)))))) .nil) (Bx (VwL_d _) (Bx (.cons (.rd .d) .nil) (BxTo_some rfl rfl rfl rfl (by exact VwL_app (by simp [injs_map])) (Bx (.cons (.rd .d) .nil) BxTo_nil))))) (SlTo_cons (.ptr rfl) (SlTo_cons (by exact .ptr rfl) (SlTo_cons (by exact Vw_refe rfl (by simp)) Sl_))) ?_)
    refine AC_region ?_
    refine Zm ?_
    refine AL_rcc hT 0 5 rfl cl173 (c_mark xs s2 hl ⟨#[93]⟩ hi2) rfl (.cons .d .nil) rfl rfl rfl rfl rfl (fun _ => (.cons .d .nil)) rfl ?_
    rintro ⟨s3, t3⟩ hz3
    refine Zn hK12 ?_
    refine Zc (fun hc3 => ?_) fun hc3 => ?_
    ·subst hc3
     have hm3 := mark_t hz3
     rw [if_pos hm3.1] at hI
     refine AC_exit ?_
     rw [← hm3.2] at hI
     subst hI
     exact fin_wk (enterS (ks := []) (g := fun _ => V.any) [some 5, some 6, some 2, some 4] rfl rfl (Bx (.cons (.agg (.cons (.rd .d) (.cons (.rd .d) (.cons (.rd .d) (.cons (.rd .d) (.cons (.ref rfl) .nil)))))) .nil) (Bx (VwL_d _) (Bx (.cons (.rd .d) .nil) (Bx (.cons (.rd .d) .nil) BxTo_nil)))) (SlTo_cons (.ptr rfl) (SlTo_cons (.ptr rfl) (SlTo_cons (.rd (.ref (srcFree rfl) rfl rfl (by simp) (ReadsL_d _))) Sl_))))
    ·subst hc3
     have hm3 := mark_f hz3
     rw [if_neg (by rw [hm3.1]; decide)] at hI
     refine Zk hK11 ?_
     refine AC_seq fun _ hK13 => ?_
     refine Zs fun _ hK14 => ?_
     refine Zm ?_
     refine AL_rcc hT 5 7 rfl cl173 (c_mark xs s3 hl ⟨#[124]⟩ (by rw [hm3.2]; exact hi2)) rfl (.cons .d .nil) rfl rfl rfl rfl rfl (fun _ => (.cons .d .nil)) rfl ?_
     rintro ⟨s4, t4⟩ hz4
     refine Zn hK14 ?_
     refine Zc (fun hc4 => ?_) fun hc4 => ?_
     ·subst hc4
      have hm4 := mark_t hz4
      rw [hm3.2] at hm4
      rw [if_pos hm4.1, ← hm4.2] at hI
      have hl4 := isM_lt hm4.1
      have hok4 : Okr xs d s4 := by rw [hm4.2]; exact hq2.adv 1 (by omega)
      have hb4 : s4.bad = false := by rw [hm4.2]; exact hl4.1
      have hn4 : xs.length + 2 ≤ n + s4.i := by rw [hm4.2]; show xs.length + 2 ≤ n + (s2.i + 1); omega
      have hp5 := hok 999 s4 hok4 hb4 hn4
      refine AC_seq fun _ hK15 => ?_
      refine AC_wk (Wk_to [some 7, some 8, some 2, some 3, some 4] [(0, .ptr LRD 0 0 []), (2, .ptr LT 2 0 []), (3, .ref LT 3 0 (ks ++ [t2]).length), (4, .ptr LT 4 0 [])] [some (rBox ⟨145, some (o 0)⟩ 1 xs s4), some (nBox 9 s4), some ⟨41, LT, [.d zT]⟩, some ⟨41, LT, (injs (ks ++ [t2])).map V.d⟩, some ⟨41, LT, [.d (inj (atom0 nmNil))]⟩] rfl rfl (Bx (.cons (.agg (.cons (.rd .d) (.cons (.rd .d) (.cons (.rd .d) (.cons (.rd .d) (.cons (.ref rfl) .nil)))))) .nil) (Bx (VwL_d _) (Bx (.cons (.rd .d) .nil) (BxTo_some rfl rfl rfl rfl (by exact VwL_d _) (Bx (.cons (.rd .d) .nil) BxTo_nil))))) (SlTo_cons (.ptr rfl) (SlTo_cons (by exact .ptr rfl) (SlTo_cons (by exact Vw_refe rfl (by rfl)) Sl_))) ?_)
      refine AC_region ?_
      refine Zm ?_
      refine AL_rcc hT 0 5 rfl cl139 (htm 999 s4 hok4 hb4 hn4) rfl (.cons .d .nil) rfl rfl rfl rfl rfl (fun _ => (.cons .d .nil)) rfl ?_
      rintro ⟨s5, t5⟩ hz5
      rw [← hz5] at hI hp5
      try simp only at hI
      try simp only at hp5
      have hq5 := hp5.ok
      have hi5 := hq5.hi
      have hle5 := hp5.le
      have hlt5 := hp5.lt
      refine Ys ts41 ?_
      refine Zn hK15 ?_
      refine Zs fun _ hK16 => ?_
      refine Zm ?_
      refine AL_rcc hT 5 7 rfl cl186 (c_wants xs s5 hl ⟨#[93]⟩ hi5) rfl (.cons .d .nil) rfl rfl rfl rfl rfl (fun _ => .nil) rfl ?_
      rintro ⟨s6, t6⟩ hz6
      have hs6 : s6 = wantsM xs s5 ⟨#[93]⟩ := congrArg Prod.fst hz6
      rw [← hs6] at hI
      refine Zn hK16 ?_
      refine AC_exit ?_
      subst hI
      exact fin_wk (enterS (ks := []) (g := fun _ => V.any) [some 7, some 8, some 2, some 4] rfl rfl (Bx (.cons (.agg (.cons (.rd .d) (.cons (.rd .d) (.cons (.rd .d) (.cons (.rd .d) (.cons (.ref rfl) .nil)))))) .nil) (Bx (VwL_d _) (Bx (.cons (.rd .d) .nil) (Bx (.cons (.rd .d) .nil) BxTo_nil)))) (SlTo_cons (.ptr rfl) (SlTo_cons (.ptr rfl) (SlTo_cons (.rd (.ref (srcFree rfl) rfl rfl (by simp) (ReadsL_d _))) Sl_))))
     ·subst hc4
      have hm4 := mark_f hz4
      rw [hm3.2] at hm4
      rw [if_neg (by rw [hm4.1]; decide)] at hI
      refine Zk hK13 ?_
      refine AC_region ?_
      refine Zm ?_
      refine AL_rcc hT 7 9 rfl cl186 (c_wants xs s4 hl ⟨#[44]⟩ (by rw [hm4.2]; exact hi2)) rfl (.cons .d .nil) rfl rfl rfl rfl rfl (fun _ => .nil) rfl ?_
      rintro ⟨s7, t7⟩ hz7
      have hs7 : s7 = wantsM xs s2 ⟨#[44]⟩ := by rw [← hm4.2]; exact congrArg Prod.fst hz7
      have hw7 := wants_ok ⟨#[44]⟩ hq2
      rw [← hs7] at hw7 hI
      refine AL_nil ?_
      refine closeS (m1, s7, ks ++ [t2]) [some 9, some 10, some 2, some 3, some 4] rfl rfl (Nat.lt_succ_self _) ⟨hI, hw7.1, fun h => ⟨by have a := hw7.2.2.2 h; have b := hlt2 a.1; show xs.length + 2 ≤ m1 + s7.i; omega, by have a := hw7.2.2.2 h; have b := hlt2 a.1; show xs.length + 2 ≤ n + s7.i; omega⟩, by show (ks ++ [t2]).length + m1 = xs.length + 3; simp; omega⟩ (Bx (.cons (.agg (.cons (.rd .d) (.cons (.rd .d) (.cons (.rd .d) (.cons (.rd .d) (.cons (.ref rfl) .nil)))))) .nil) (Bx (VwL_d _) (Bx (.cons (.rd .d) .nil) (Bx (VwL_d _) (Bx (.cons (.rd .d) .nil) BxTo_nil))))) (SlTo_cons (by exact .ptr rfl) (SlTo_cons (by exact .ptr rfl) (SlTo_cons (Vw_refe rfl rfl) Sl_)))
   ·have hb0 : s0.bad = true := by simpa using hc2
    have hE : M = (s0, ks, atom0 nmNil) := by rw [← hI]; cases m <;> simp [rowL, hb0]
    clear hI
    have hI := hE.symm
    refine AC_exit ?_
    subst hI
    exact fin_wk (enterS (ks := []) (g := fun _ => V.any) [some 0, some 1, some 2, some 4] rfl rfl (Bx (.cons (.agg (.cons (.rd .d) (.cons (.rd .d) (.cons (.rd .d) (.cons (.rd .d) (.cons (.ref rfl) .nil)))))) .nil) (Bx (VwL_d _) (Bx (.cons (.rd .d) .nil) (Bx (.cons (.rd .d) .nil) BxTo_nil)))) (SlTo_cons (.ptr rfl) (SlTo_cons (.ptr rfl) (SlTo_cons (.rd (.ref (srcFree rfl) rfl rfl (by simp) (ReadsL_d _))) Sl_))))
  ·rintro f L ⟨rfl, rfl⟩
   refine AC_seq fun _ hK17 => ?_
   refine Zs fun _ hK18 => ?_
   refine Zm ?_
   refine AL_lim (x := (Operand.tmp 31)) rfl fun hl1 => ?_
   try simp only [injs_length, ints_length, strs_length, injCs_length, u8s_length, List.length_map] at hl1
   refine Ze (Ev_len_injs te39 rfl) ?_
   refine Ze (Ev_sub rfl rfl _ (wrap_id (by omega) (by omega))) ?_
   refine Za ?_
   refine Zn hK18 ?_
   refine AC_block ?_
   refine AC_loopS [0, 2, 3, 4] (Nat) (fun j => [(5, i64 ((j : Int) - 1))]) (fun j => [some (rBox ⟨145, some (o 0)⟩ 1 xs M.1), some (nBox 9 M.1), some ⟨41, LT, [.d zT]⟩, some ⟨41, LT, [.d (inj (mkListE M.2.2 (M.2.1.drop j)))]⟩]) (fun j => j) (fun j => j ≤ M.2.1.length) (M.2.1.length) ?_ ?_ ?_
   ·exact enterS [some 0, some 1, some 2, some 3] rfl rfl (Bx (.cons (.agg (.cons (.rd .d) (.cons (.rd .d) (.cons (.rd .d) (.cons (.rd .d) (.cons (.ref rfl) .nil)))))) .nil) (Bx (VwL_d _) (Bx (.cons (.rd .d) .nil) (BxTo_some rfl rfl rfl rfl (VwL_one (by rw [List.drop_length]; rfl)) BxTo_nil)))) Sl_
   ·exact Nat.le_refl _
   intro j1 hj1
   refine AC_seq fun _ hK19 => ?_
   refine Zs fun _ hK20 => ?_
   refine Zm ?_
   refine Ze (Ev_geq rfl rfl) ?_
   refine Zn hK20 ?_
   refine Zc (fun hc5 => ?_) fun hc5 => ?_
   ·have h1 : 0 < j1 := by have := of_decide_eq_true hc5; omega
    obtain ⟨m, rfl⟩ : ∃ m, j1 = m + 1 := ⟨j1 - 1, by omega⟩
    obtain ⟨u, hu⟩ : ∃ u, M.2.1[m]? = some u := ⟨_, List.getElem?_eq_getElem (by omega)⟩
    have hu2 : (injs M.2.1)[(((m + 1 : Nat) : Int) - 1).toNat]? = some (inj u) := by rw [show (((m + 1 : Nat) : Int) - 1).toNat = m by omega]; exact injs_get hu
    refine Zk hK19 ?_
    refine AC_seq fun _ hK21 => ?_
    refine AC_block ?_
    refine AC_draw hT follows [0, 1, 2, 3, 4, 5, 6] (by kernel_rfl) ?_
    refine DT_ev rfl (EA_move) rfl ?_
    refine DT_ev rfl (EA_move) rfl ?_
    refine DT_ev rfl (EA_ix_sl rfl rfl te39 ts41 (by omega) (by assumption)) rfl ?_
    refine DT_ev rfl (EA_load_rp rfl rfl rfl ts41 ta41 (by simp) (by intro h; cases h)) rfl ?_
    refine DT_ev rfl (EA_load_ptr rfl rfl rfl rfl rfl rfl ts41 ta41 (by simp) (by intro h; cases h)) rfl ?_
    refine DT_fcall0 rfl rfl cl121 (c_two nmDot u (mkListE M.2.2 (M.2.1.drop (m + 1)))) rfl rfl ?_
    refine DT_store rfl rfl (nf rfl) rfl rfl rfl rfl rfl rfl (by rfl) ts41 rfl rfl ?_
    refine Zd hK21 ?_
    refine AC_region ?_
    refine Zm ?_
    refine Ze (Ev_sub rfl rfl _ (wrap_id (by omega) (by omega))) ?_
    refine Za ?_
    refine AL_nil ?_
    refine closeS m [some 0, some 1, some 2, some 3] rfl rfl (by show m < m + 1; omega) (by show m ≤ M.2.1.length; omega) (Bx (.cons (.agg (.cons (.rd .d) (.cons (.rd .d) (.cons (.rd .d) (.cons (.rd .d) (.cons (.ref rfl) .nil)))))) .nil) (Bx (VwL_d _) (Bx (.cons (.rd .d) .nil) (BxTo_some rfl rfl rfl rfl (VwL_one (by rw [mkListE_drop hu])) BxTo_nil)))) Sl_
   ·refine Zx hK17 ?_
    refine Zs fun _ hK22 => ?_
    refine YL ts41 ta41 ?_
    refine Ys ts41 ?_
    refine Zn hK22 ?_
    refine AC_ret ?_
    have h1 : j1 = 0 := by have := of_decide_eq_false hc5; omega
    subst h1
    exact retr_ok ((M.1, mkListE M.2.2 M.2.1)) (by simp only [rowM]; rw [if_neg (by rw [hm1.1]; decide), hM]) [0, 1] (CExt.refl _) (.cell rfl rfl rfl rfl rfl rfl ts41 ta41 (by simp) (by intro h; cases h) .nil) rfl rfl (BxF_stay rfl rfl rfl rfl rfl (.cons (.agg (.cons .d (.cons .d (.cons .d (.cons .d (.cons (.ref rfl) .nil)))))) .nil) rfl (BxF_cons rfl rfl rfl rfl rfl (VxL_d _) (Nat.le_refl _) BxF_nil)) (Nat.le_of_ble_eq_true rfl) (.cons .d .nil)
set_option maxHeartbeats 4000000 in
set_option maxRecDepth 4000 in
theorem c_round (xs : List Sg) (s : Rs) (hl : xs.length ≤ 1048576) (d : Int) (n : Nat) (tm : Int → Rs → Rs × T) (htm : TmC Tryz.prog 139 145 9 xs d n tm) (hok : TmOk xs d n tm) (hs : Okr xs d s) (hb : s.bad = false) (hn : xs.length + 2 ≤ n + s.i) : RcC Tryz.prog 174 145 9 xs s [] (roundM xs tm s) (fun t => [.d (inj t)]) := by
 have hsi := hs.hi
 refine HCallX_of (n := 75) Tryz.func174 rfl rfl (Nat.le_of_ble_eq_true rfl) (Nat.le_of_ble_eq_true rfl) fun C0 o hT => ?_
 refine Zs fun _ hK1 => ?_
 refine AL_alloc zo41 _ rfl rfl ?_
 refine Zn hK1 ?_
 refine AC_seq fun _ hK2 => ?_
 refine AC_seq fun _ hK3 => ?_
 refine AC_draw hT follows [0, 1, 2, 3, 4, 5, 6, 7, 8, 9, 10, 11, 12, 13, 14, 15, 16, 17, 18, 19, 20, 21, 22, 23, 24, 25, 26, 27, 28, 29, 30, 31, 32, 33, 34, 35, 36, 37, 38, 39, 40, 41, 42, 43, 44] (by kernel_rfl) ?_
 refine DT_ev rfl (EA_move) rfl ?_
 refine DT_qcallL rfl rfl cl140 (c_is xs (s) 1 (⟨#[]⟩) (by omega)) (fun C2 => (.cons (.rd (.ptr trivial rfl rfl rfl (.agg (.cons .d (.cons .d (.cons .d (.cons .d (.cons (.ref trivial rfl rfl (by simp) (ReadsL_d _)) .nil)))))))) (.cons (.rd .d) (.cons (.rd .d) .nil)))) rfl ?_
 refine DT_ev rfl (EA_move) rfl ?_
 refine DT_bool 6 rfl (fun hg1 => ?_) (fun hg1 => ?_)
 ·have hm := isM_lt hg1
  refine DT_evt rfl rfl rfl rfl (EA_move) rfl ?_
  refine DT_evt rfl rfl rfl rfl (EA_nilc_ptr rfl) rfl ?_
  refine DT_evt rfl rfl rfl rfl (EA_fa_ptr rfl fa145_1 rfl rfl) rfl ?_
  refine DT_evt rfl rfl rfl rfl (EA_load_ptr rfl rfl rfl rfl rfl rfl ts3 ta3 rfl (fun _ => rfl)) rfl ?_
  refine DT_evt rfl rfl rfl rfl (EA_add rfl rfl _ (wrap_id (by omega) (by omega))) rfl ?_
  refine DT_evt rfl rfl rfl rfl (EA_move) rfl ?_
  refine DT_evt rfl rfl rfl rfl (EA_nilc_ptr rfl) rfl ?_
  refine DT_evt rfl rfl rfl rfl (EA_fa_ptr rfl fa145_0 rfl rfl) rfl ?_
  refine DT_evt rfl rfl rfl rfl (EA_load_ptr rfl rfl rfl rfl rfl rfl ts119 ta119 rfl (fun _ => rfl)) rfl ?_
  refine DT_evt rfl rfl rfl rfl (EA_len_sl te119 rfl) rfl ?_
  refine DT_evt rfl rfl rfl rfl (EA_lss rfl rfl) rfl ?_
  refine DT_ev rfl (EA_pick rfl) rfl ?_
  refine DT_ev rfl (EA_move) rfl ?_
  refine DT_bool 19 rfl (fun hg2 => ?_) (fun hg2 => ?_)
  ·simp only [injGs_length] at hg2
   have hlt : s.i + 1 < xs.length := by have := of_decide_eq_true hg2; omega
   refine Exists.elim (show ∃ v, xs[s.i + 1]? = some v from ⟨_, List.getElem?_eq_getElem hlt⟩) fun y hy => ?_
   have hy3 : (injGs xs)[(((s.i : Nat) : Int) + 1).toNat]? = some (injG y) := by rw [show (((s.i : Nat) : Int) + 1).toNat = s.i + 1 by omega]; simpa using injGs_get hy
   refine DT_evt rfl rfl rfl rfl (EA_move) rfl ?_
   refine DT_evt rfl rfl rfl rfl (EA_nilc_ptr rfl) rfl ?_
   refine DT_evt rfl rfl rfl rfl (EA_fa_ptr rfl fa145_0 rfl rfl) rfl ?_
   refine DT_evt rfl rfl rfl rfl (EA_load_ptr rfl rfl rfl rfl rfl rfl ts119 ta119 rfl (fun _ => rfl)) rfl ?_
   refine DT_evt rfl rfl rfl rfl (EA_move) rfl ?_
   refine DT_evt rfl rfl rfl rfl (EA_nilc_ptr rfl) rfl ?_
   refine DT_evt rfl rfl rfl rfl (EA_fa_ptr rfl fa145_1 rfl rfl) rfl ?_
   refine DT_evt rfl rfl rfl rfl (EA_load_ptr rfl rfl rfl rfl rfl rfl ts3 ta3 rfl (fun _ => rfl)) rfl ?_
   refine DT_evt rfl rfl rfl rfl (EA_add rfl rfl _ (wrap_id (by omega) (by omega))) rfl ?_
   refine DT_evt rfl rfl rfl rfl (EA_ix_sl rfl rfl te119 ts139 (by omega) (by assumption)) rfl ?_
   refine DT_evt rfl rfl rfl rfl (EA_fa_rp rfl fa139_0 rfl rfl) rfl ?_
   refine DT_evt rfl rfl rfl rfl (EA_load_rp rfl rfl rfl ts3 ta3 rfl (fun _ => rfl)) rfl ?_
   refine DT_evt rfl rfl rfl rfl (EA_eql rfl rfl) rfl ?_
   refine DT_ev rfl (EA_pick rfl) rfl ?_
   refine DT_ev rfl (EA_move) rfl ?_
   refine DT_bool 34 rfl (fun hg3 => ?_) (fun hg3 => ?_)
   ·have hk3 : y.k = 4 := of_decide_eq_true hg3
    refine DT_evt rfl rfl rfl rfl (EA_move) rfl ?_
    refine DT_evt rfl rfl rfl rfl (EA_nilc_ptr rfl) rfl ?_
    refine DT_evt rfl rfl rfl rfl (EA_fa_ptr rfl fa145_0 rfl rfl) rfl ?_
    refine DT_evt rfl rfl rfl rfl (EA_load_ptr rfl rfl rfl rfl rfl rfl ts119 ta119 rfl (fun _ => rfl)) rfl ?_
    refine DT_evt rfl rfl rfl rfl (EA_move) rfl ?_
    refine DT_evt rfl rfl rfl rfl (EA_nilc_ptr rfl) rfl ?_
    refine DT_evt rfl rfl rfl rfl (EA_fa_ptr rfl fa145_1 rfl rfl) rfl ?_
    refine DT_evt rfl rfl rfl rfl (EA_load_ptr rfl rfl rfl rfl rfl rfl ts3 ta3 rfl (fun _ => rfl)) rfl ?_
    refine DT_evt rfl rfl rfl rfl (EA_add rfl rfl _ (wrap_id (by omega) (by omega))) rfl ?_
    refine DT_evt rfl rfl rfl rfl (EA_ix_sl rfl rfl te119 ts139 (by omega) (by assumption)) rfl ?_
    refine DT_evt rfl rfl rfl rfl (EA_fa_rp rfl fa139_1 rfl rfl) rfl ?_
    refine DT_evt rfl rfl rfl rfl (EA_load_rp rfl rfl rfl ts9 ta9 rfl (fun _ => rfl)) rfl ?_
    refine DT_evt rfl rfl rfl rfl (EA_seql rfl rfl) rfl ?_
    refine DT_ev rfl (EA_pick rfl) rfl ?_
    refine Zd hK3 ?_
    refine Zc (fun hc4 => ?_) fun hc4 => ?_
    ·have hx3 : y.x = ⟨#[41]⟩ := of_decide_eq_true hc4
     have hcl : isM xs s 1 ⟨#[]⟩ = true ∧ closeB xs s = true := ⟨hg1, by simp [closeB, hy, hk3, hx3]⟩
     refine Exists.elim (show ∃ v, xs[s.i]? = some v from ⟨_, List.getElem?_eq_getElem hm.2.1⟩) fun g0 hg0 => ?_
     have hg02 : (injGs xs)[((((s.i : Nat) : Int) + 2) - 2).toNat]? = some (injG g0) := by rw [show ((((s.i : Nat) : Int) + 2) - 2).toNat = s.i by omega]; simpa using injGs_get hg0
     refine Zs fun _ hK4 => ?_
     iterate 2 refine Zm ?_
     refine Ze (Ev_nilc_ptr rfl) ?_
     refine Ya fa145_1 ?_
     refine Yl ts3 ta3 ?_
     refine Ze (Ev_add rfl rfl _ (wrap_id (by omega) (by omega))) ?_
     refine Ze (Ev_nilc_ptr rfl) ?_
     refine Ya fa145_1 ?_
     refine Ys ts3 ?_
     refine Zn hK4 ?_
     refine AC_seq fun _ hK5 => ?_
     refine AC_draw hT follows [0, 1, 2, 3, 4, 5, 6, 7, 8, 9, 10, 11, 12, 13] (by kernel_rfl) ?_
     refine DT_ev rfl (EA_move) rfl ?_
     refine DT_ev rfl (EA_nilc_ptr rfl) rfl ?_
     refine DT_ev rfl (EA_fa_ptr rfl fa145_0 rfl rfl) rfl ?_
     refine DT_ev rfl (EA_load_ptr rfl rfl rfl rfl rfl rfl ts119 ta119 rfl (fun _ => rfl)) rfl ?_
     refine DT_ev rfl (EA_move) rfl ?_
     refine DT_ev rfl (EA_nilc_ptr rfl) rfl ?_
     refine DT_ev rfl (EA_fa_ptr rfl fa145_1 rfl rfl) rfl ?_
     refine DT_ev rfl (EA_load_ptr rfl rfl rfl rfl rfl rfl ts3 ta3 rfl (fun _ => rfl)) rfl ?_
     refine DT_ev rfl (EA_sub rfl rfl _ (wrap_id (by omega) (by omega))) rfl ?_
     refine DT_ev rfl (EA_ix_sl rfl rfl te119 ts139 (by omega) (by assumption)) rfl ?_
     refine DT_ev rfl (EA_fa_rp rfl fa139_1 rfl rfl) rfl ?_
     refine DT_ev rfl (EA_load_rp rfl rfl rfl ts9 ta9 rfl (fun _ => rfl)) rfl ?_
     refine DT_fcall0 rfl rfl cl58 (c_atom03 g0.x) rfl rfl ?_
     refine DT_store rfl rfl (nf rfl) rfl rfl rfl rfl rfl rfl (by rfl) ts41 rfl rfl ?_
     refine Zd hK5 ?_
     refine AC_ret ?_
     exact retr_ok (({ s with i := s.i + 2 }, atom0 g0.x)) (by simp only [roundM]; rw [if_pos hcl]; simp only [sgAt, hg0]) [0, 1] (CExt.refl _) (.cell rfl rfl rfl rfl rfl rfl ts41 ta41 (by rfl) (by intro h; cases h) .nil) rfl rfl (BxF_stay rfl rfl rfl rfl rfl (.cons (.agg (.cons .d (.cons .d (.cons .d (.cons .d (.cons (.ref rfl) .nil)))))) .nil) rfl (BxF_cons rfl rfl rfl rfl rfl (VxL_d _) (Nat.le_refl _) BxF_nil)) (Nat.le_of_ble_eq_true rfl) (.cons .d .nil)
    ·have hx3 : ¬ y.x = ⟨#[41]⟩ := of_decide_eq_false hc4
     have hno : ¬ (isM xs s 1 ⟨#[]⟩ = true ∧ closeB xs s = true) := by simp [closeB, hy, hx3]
     refine Zk hK2 ?_
     refine AC_seq fun _ hK6 => ?_
     refine AC_wk (Wk_to [some 0, some 1, some 2] [(0, .ptr LRD 0 0 []), (2, .ptr LT 2 0 [])] [some (rBox ⟨145, some (o 0)⟩ 1 xs s), some (nBox 9 s), some ⟨41, LT, [.d zT]⟩] rfl rfl (Bx (.cons (.agg (.cons (.rd .d) (.cons (.rd .d) (.cons (.rd .d) (.cons (.rd .d) (.cons (.ref rfl) .nil)))))) .nil) (Bx (VwL_d _) (Bx (.cons (.rd .d) .nil) BxTo_nil))) Sl_ ?_)
     refine AC_region ?_
     refine Zm ?_
     refine AL_rcc hT 0 3 rfl cl139 (htm 1200 s hs hb hn) rfl (.cons .d .nil) rfl rfl rfl rfl rfl (fun _ => (.cons .d .nil)) rfl ?_
     rintro ⟨s1, t1⟩ hz1
     have hp1 := hok 1200 s hs hb hn
     rw [← hz1] at hp1
     try simp only at hp1
     have hq1 := hp1.ok
     have hi1 := hq1.hi
     have hle1 := hp1.le
     have hlt1 := hp1.lt
     refine AL_alloc zo41 _ rfl rfl ?_
     refine Ys ts41 ?_
     refine Zn hK6 ?_
     refine Zs fun _ hK7 => ?_
     refine Zm ?_
     refine AL_rcc hT 3 6 rfl cl186 (c_wants xs s1 hl ⟨#[41]⟩ hi1) rfl (.cons .d .nil) rfl rfl rfl rfl rfl (fun _ => .nil) rfl ?_
     rintro ⟨s2, t2⟩ hz2
     have hs2 : s2 = wantsM xs s1 ⟨#[41]⟩ := congrArg Prod.fst hz2
     refine Zn hK7 ?_
     refine Zs fun _ hK8 => ?_
     refine YL ts41 ta41 ?_
     refine Ys ts41 ?_
     refine Zn hK8 ?_
     refine AC_ret ?_
     exact retr_ok ((s2, t1)) (by simp only [roundM]; rw [if_neg hno, ← hz1, hs2]) [6, 7] (CExt.refl _) (.cell rfl rfl rfl rfl rfl rfl ts41 ta41 (by simp) (by intro h; cases h) .nil) rfl rfl (BxF_stay rfl rfl rfl rfl rfl (.cons (.agg (.cons .d (.cons .d (.cons .d (.cons .d (.cons (.ref rfl) .nil)))))) .nil) rfl (BxF_cons rfl rfl rfl rfl rfl (VxL_d _) (Nat.le_refl _) BxF_nil)) (Nat.le_of_ble_eq_true rfl) (.cons .d .nil)
   ·have hk3 : ¬ y.k = 4 := of_decide_eq_false hg3
    have hno : ¬ (isM xs s 1 ⟨#[]⟩ = true ∧ closeB xs s = true) := by simp [closeB, hy, hk3]
    iterate 13 refine Df ?_
    refine DT_ev rfl (EA_pick rfl) rfl ?_
    refine Zd hK3 ?_
    refine AC_cond_f rfl ?_
    refine Zk hK2 ?_
    refine AC_seq fun _ hK9 => ?_
    refine AC_wk (Wk_to [some 0, some 1, some 2] [(0, .ptr LRD 0 0 []), (2, .ptr LT 2 0 [])] [some (rBox ⟨145, some (o 0)⟩ 1 xs s), some (nBox 9 s), some ⟨41, LT, [.d zT]⟩] rfl rfl (Bx (.cons (.agg (.cons (.rd .d) (.cons (.rd .d) (.cons (.rd .d) (.cons (.rd .d) (.cons (.ref rfl) .nil)))))) .nil) (Bx (VwL_d _) (Bx (.cons (.rd .d) .nil) BxTo_nil))) Sl_ ?_)
    refine AC_region ?_
    refine Zm ?_
    refine AL_rcc hT 0 3 rfl cl139 (htm 1200 s hs hb hn) rfl (.cons .d .nil) rfl rfl rfl rfl rfl (fun _ => (.cons .d .nil)) rfl ?_
    rintro ⟨s3, t3⟩ hz3
    have hp3 := hok 1200 s hs hb hn
    rw [← hz3] at hp3
    try simp only at hp3
    have hq3 := hp3.ok
    have hi3 := hq3.hi
    have hle3 := hp3.le
    have hlt3 := hp3.lt
    refine AL_alloc zo41 _ rfl rfl ?_
    refine Ys ts41 ?_
    refine Zn hK9 ?_
    refine Zs fun _ hK10 => ?_
    refine Zm ?_
    refine AL_rcc hT 3 6 rfl cl186 (c_wants xs s3 hl ⟨#[41]⟩ hi3) rfl (.cons .d .nil) rfl rfl rfl rfl rfl (fun _ => .nil) rfl ?_
    rintro ⟨s4, t4⟩ hz4
    have hs4 : s4 = wantsM xs s3 ⟨#[41]⟩ := congrArg Prod.fst hz4
    refine Zn hK10 ?_
    refine Zs fun _ hK11 => ?_
    refine YL ts41 ta41 ?_
    refine Ys ts41 ?_
    refine Zn hK11 ?_
    refine AC_ret ?_
    exact retr_ok ((s4, t3)) (by simp only [roundM]; rw [if_neg hno, ← hz3, hs4]) [6, 7] (CExt.refl _) (.cell rfl rfl rfl rfl rfl rfl ts41 ta41 (by simp) (by intro h; cases h) .nil) rfl rfl (BxF_stay rfl rfl rfl rfl rfl (.cons (.agg (.cons .d (.cons .d (.cons .d (.cons .d (.cons (.ref rfl) .nil)))))) .nil) rfl (BxF_cons rfl rfl rfl rfl rfl (VxL_d _) (Nat.le_refl _) BxF_nil)) (Nat.le_of_ble_eq_true rfl) (.cons .d .nil)
  ·simp only [injGs_length] at hg2
   have hlt : ¬ s.i + 1 < xs.length := by have := of_decide_eq_false hg2; omega
   have hny : xs[s.i + 1]? = none := List.getElem?_eq_none (by omega)
   have hno : ¬ (isM xs s 1 ⟨#[]⟩ = true ∧ closeB xs s = true) := by simp [closeB, hny]
   iterate 13 refine Df ?_
   refine DT_ev rfl (EA_pick rfl) rfl ?_
   refine DT_ev rfl (EA_move) rfl ?_
   iterate 13 refine Df ?_
   refine DT_ev rfl (EA_pick rfl) rfl ?_
   refine Zd hK3 ?_
   refine AC_cond_f rfl ?_
   refine Zk hK2 ?_
   refine AC_seq fun _ hK12 => ?_
   refine AC_wk (Wk_to [some 0, some 1, some 2] [(0, .ptr LRD 0 0 []), (2, .ptr LT 2 0 [])] [some (rBox ⟨145, some (o 0)⟩ 1 xs s), some (nBox 9 s), some ⟨41, LT, [.d zT]⟩] rfl rfl (Bx (.cons (.agg (.cons (.rd .d) (.cons (.rd .d) (.cons (.rd .d) (.cons (.rd .d) (.cons (.ref rfl) .nil)))))) .nil) (Bx (VwL_d _) (Bx (.cons (.rd .d) .nil) BxTo_nil))) Sl_ ?_)
   refine AC_region ?_
   refine Zm ?_
   refine AL_rcc hT 0 3 rfl cl139 (htm 1200 s hs hb hn) rfl (.cons .d .nil) rfl rfl rfl rfl rfl (fun _ => (.cons .d .nil)) rfl ?_
   rintro ⟨s5, t5⟩ hz5
   have hp5 := hok 1200 s hs hb hn
   rw [← hz5] at hp5
   try simp only at hp5
   have hq5 := hp5.ok
   have hi5 := hq5.hi
   have hle5 := hp5.le
   have hlt5 := hp5.lt
   refine AL_alloc zo41 _ rfl rfl ?_
   refine Ys ts41 ?_
   refine Zn hK12 ?_
   refine Zs fun _ hK13 => ?_
   refine Zm ?_
   refine AL_rcc hT 3 6 rfl cl186 (c_wants xs s5 hl ⟨#[41]⟩ hi5) rfl (.cons .d .nil) rfl rfl rfl rfl rfl (fun _ => .nil) rfl ?_
   rintro ⟨s6, t6⟩ hz6
   have hs6 : s6 = wantsM xs s5 ⟨#[41]⟩ := congrArg Prod.fst hz6
   refine Zn hK13 ?_
   refine Zs fun _ hK14 => ?_
   refine YL ts41 ta41 ?_
   refine Ys ts41 ?_
   refine Zn hK14 ?_
   refine AC_ret ?_
   exact retr_ok ((s6, t5)) (by simp only [roundM]; rw [if_neg hno, ← hz5, hs6]) [6, 7] (CExt.refl _) (.cell rfl rfl rfl rfl rfl rfl ts41 ta41 (by simp) (by intro h; cases h) .nil) rfl rfl (BxF_stay rfl rfl rfl rfl rfl (.cons (.agg (.cons .d (.cons .d (.cons .d (.cons .d (.cons (.ref rfl) .nil)))))) .nil) rfl (BxF_cons rfl rfl rfl rfl rfl (VxL_d _) (Nat.le_refl _) BxF_nil)) (Nat.le_of_ble_eq_true rfl) (.cons .d .nil)
 ·have hno : ¬ (isM xs s 1 ⟨#[]⟩ = true ∧ closeB xs s = true) := by rw [hg1]; simp
  iterate 11 refine Df ?_
  refine DT_ev rfl (EA_pick rfl) rfl ?_
  refine DT_ev rfl (EA_move) rfl ?_
  iterate 13 refine Df ?_
  refine DT_ev rfl (EA_pick rfl) rfl ?_
  refine DT_ev rfl (EA_move) rfl ?_
  iterate 13 refine Df ?_
  refine DT_ev rfl (EA_pick rfl) rfl ?_
  refine Zd hK3 ?_
  refine AC_cond_f rfl ?_
  refine Zk hK2 ?_
  refine AC_seq fun _ hK15 => ?_
  refine AC_wk (Wk_to [some 0, some 1, some 2] [(0, .ptr LRD 0 0 []), (2, .ptr LT 2 0 [])] [some (rBox ⟨145, some (o 0)⟩ 1 xs s), some (nBox 9 s), some ⟨41, LT, [.d zT]⟩] rfl rfl (Bx (.cons (.agg (.cons (.rd .d) (.cons (.rd .d) (.cons (.rd .d) (.cons (.rd .d) (.cons (.ref rfl) .nil)))))) .nil) (Bx (VwL_d _) (Bx (.cons (.rd .d) .nil) BxTo_nil))) Sl_ ?_)
  refine AC_region ?_
  refine Zm ?_
  refine AL_rcc hT 0 3 rfl cl139 (htm 1200 s hs hb hn) rfl (.cons .d .nil) rfl rfl rfl rfl rfl (fun _ => (.cons .d .nil)) rfl ?_
  rintro ⟨s7, t7⟩ hz7
  have hp7 := hok 1200 s hs hb hn
  rw [← hz7] at hp7
  try simp only at hp7
  have hq7 := hp7.ok
  have hi7 := hq7.hi
  have hle7 := hp7.le
  have hlt7 := hp7.lt
  refine AL_alloc zo41 _ rfl rfl ?_
  refine Ys ts41 ?_
  refine Zn hK15 ?_
  refine Zs fun _ hK16 => ?_
  refine Zm ?_
  refine AL_rcc hT 3 6 rfl cl186 (c_wants xs s7 hl ⟨#[41]⟩ hi7) rfl (.cons .d .nil) rfl rfl rfl rfl rfl (fun _ => .nil) rfl ?_
  rintro ⟨s8, t8⟩ hz8
  have hs8 : s8 = wantsM xs s7 ⟨#[41]⟩ := congrArg Prod.fst hz8
  refine Zn hK16 ?_
  refine Zs fun _ hK17 => ?_
  refine YL ts41 ta41 ?_
  refine Ys ts41 ?_
  refine Zn hK17 ?_
  refine AC_ret ?_
  exact retr_ok ((s8, t7)) (by simp only [roundM]; rw [if_neg hno, ← hz7, hs8]) [6, 7] (CExt.refl _) (.cell rfl rfl rfl rfl rfl rfl ts41 ta41 (by simp) (by intro h; cases h) .nil) rfl rfl (BxF_stay rfl rfl rfl rfl rfl (.cons (.agg (.cons .d (.cons .d (.cons .d (.cons .d (.cons (.ref rfl) .nil)))))) .nil) rfl (BxF_cons rfl rfl rfl rfl rfl (VxL_d _) (Nat.le_refl _) BxF_nil)) (Nat.le_of_ble_eq_true rfl) (.cons .d .nil)
end Go.Proofs.YtjgliechbnommaaGreatDoor
set_option linter.unusedVariables false
set_option linter.unusedSimpArgs false
namespace Go.Proofs.YtjgliechbnommaaGreatDoor
open Go.Eng
theorem cl177 : Callable Tryz.prog 177 := Zq Tryz.func177
theorem cl183 : Callable Tryz.prog 183 := Zq Tryz.func183
theorem cl184 : Callable Tryz.prog 184 := Zq Tryz.func184
theorem cl185 : Callable Tryz.prog 185 := Zq Tryz.func185
theorem fa139_2 : tyField Tryz.prog 139 2 = some (2, true) := by kernel_rfl
theorem fa139_4 : tyField Tryz.prog 139 4 = some (4, true) := by kernel_rfl
theorem fa161_1 : tyField Tryz.prog 161 1 = some (1, true) := by kernel_rfl
theorem fa161_3 : tyField Tryz.prog 161 3 = some (3, true) := by kernel_rfl
set_option maxHeartbeats 4000000 in
set_option maxRecDepth 4000 in
theorem c_infixR (xs : List Sg) (s : Rs) (hl : xs.length ≤ 1048576) (hi : s.i ≤ xs.length + 1) : RcC Tryz.prog 162 145 9 xs s [] ((s, nextM xs s)) (fun t => [.d (injO t.1), bl t.2]) := by
 refine HCallX_of (n := 40) Tryz.func162 rfl rfl (Nat.le_of_ble_eq_true rfl) (Nat.le_of_ble_eq_true rfl) fun C0 o hT => ?_
 refine Zs fun _ hK1 => ?_
 refine AL_alloc zo161 _ rfl rfl ?_
 refine Za ?_
 refine Zn hK1 ?_
 refine AC_seq fun _ hK2 => ?_
 refine Zs fun _ hK3 => ?_
 refine Zm ?_
 refine AL_qcall hT rfl cl140 (c_is xs (s) 4 (⟨#[44]⟩) (by omega)) (.cons (.rd (.ptr trivial rfl rfl rfl (.agg (.cons .d (.cons .d (.cons .d (.cons .d (.cons (.ref trivial rfl rfl (by simp) (ReadsL_d _)) .nil)))))))) (.cons (.rd .d) (.cons (.rd .d) .nil))) rfl ?_
 refine Zn hK3 ?_
 refine Zc (fun hc1 => ?_) fun hc1 => ?_
 ·refine Zs fun _ hK4 => ?_
  refine AL_fcall0 hT rfl cl177 (c_infixOf ⟨#[44]⟩) rfl rfl ?_
  refine Ze (Ev_extract rfl rfl) ?_
  refine Ze (Ev_extract rfl rfl) ?_
  refine Ys ts161 ?_
  refine Za ?_
  refine Zn hK4 ?_
  refine AC_ret ?_
  exact retr_ok ((s, betw ⟨#[44]⟩)) (by simp only [nextM]; rw [if_pos hc1]) [0, 1] (CExt.refl _) (.cell rfl rfl rfl rfl rfl rfl ts161 ta161 (by rfl) (by intro h; cases h) (.tmp rfl rfl .nil)) rfl rfl (BxF_stay rfl rfl rfl rfl rfl (.cons (.agg (.cons .d (.cons .d (.cons .d (.cons .d (.cons (.ref rfl) .nil)))))) .nil) rfl (BxF_cons rfl rfl rfl rfl rfl (VxL_d _) (Nat.le_refl _) BxF_nil)) (Nat.le_of_ble_eq_true rfl) (.cons .d (.cons .d .nil))
 ·have hn1 : ¬ isM xs s 4 ⟨#[44]⟩ = true := by rw [hc1]; decide
  refine Zk hK2 ?_
  refine AC_seq fun _ hK5 => ?_
  refine AC_seq fun _ hK6 => ?_
  refine AC_draw hT follows [0, 1, 2, 3, 4, 5, 6, 7, 8, 9, 10, 11, 12, 13, 14, 15] (by kernel_rfl) ?_
  refine DT_ev rfl (EA_move) rfl ?_
  refine DT_qcallL rfl rfl cl140 (c_is xs (s) 1 (⟨#[]⟩) (by omega)) (fun C2 => (.cons (.rd (.ptr trivial rfl rfl rfl (.agg (.cons .d (.cons .d (.cons .d (.cons .d (.cons (.ref trivial rfl rfl (by simp) (ReadsL_d _)) .nil)))))))) (.cons (.rd .d) (.cons (.rd .d) .nil)))) rfl ?_
  refine DT_ev rfl (EA_move) rfl ?_
  refine DT_bool 11 rfl (fun hg2 => ?_) (fun hg2 => ?_)
  ·have hm := isM_lt hg2
   refine Exists.elim (show ∃ v, xs[s.i]? = some v from ⟨_, List.getElem?_eq_getElem hm.2.1⟩) fun g hg => ?_
   have hgx := injGs_get hg
   have hsg : sgAt xs s.i = g := by simp only [sgAt, hg]
   refine DT_evt rfl rfl rfl rfl (EA_move) rfl ?_
   refine DT_evt rfl rfl rfl rfl (EA_nilc_ptr rfl) rfl ?_
   refine DT_evt rfl rfl rfl rfl (EA_fa_ptr rfl fa145_0 rfl rfl) rfl ?_
   refine DT_evt rfl rfl rfl rfl (EA_load_ptr rfl rfl rfl rfl rfl rfl ts119 ta119 rfl (fun _ => rfl)) rfl ?_
   refine DT_evt rfl rfl rfl rfl (EA_move) rfl ?_
   refine DT_evt rfl rfl rfl rfl (EA_nilc_ptr rfl) rfl ?_
   refine DT_evt rfl rfl rfl rfl (EA_fa_ptr rfl fa145_1 rfl rfl) rfl ?_
   refine DT_evt rfl rfl rfl rfl (EA_load_ptr rfl rfl rfl rfl rfl rfl ts3 ta3 rfl (fun _ => rfl)) rfl ?_
   refine DT_evt rfl rfl rfl rfl (EA_ix_sl rfl rfl te119 ts139 (by omega) (by assumption)) rfl ?_
   refine DT_evt rfl rfl rfl rfl (EA_fa_rp rfl fa139_4 rfl rfl) rfl ?_
   refine DT_evt rfl rfl rfl rfl (EA_load_rp rfl rfl rfl ts4 ta4 rfl (fun _ => rfl)) rfl ?_
   refine DT_evt rfl rfl rfl rfl (EA_not rfl) rfl ?_
   refine DT_ev rfl (EA_pick rfl) rfl ?_
   refine Zd hK6 ?_
   refine Zc (fun hc3 => ?_) fun hc3 => ?_
   ·have hgn : isM xs s 1 ⟨#[]⟩ = true ∧ (sgAt xs s.i).n = false := ⟨hg2, by rw [hsg]; simpa using hc3⟩
    refine AC_seq fun _ hK7 => ?_
    refine AC_draw hT follows [0, 1, 2, 3, 4, 5, 6, 7, 8, 9, 10, 11, 12, 13, 14, 15] (by kernel_rfl) ?_
    refine DT_ev rfl (EA_move) rfl ?_
    refine DT_ev rfl (EA_nilc_ptr rfl) rfl ?_
    refine DT_ev rfl (EA_fa_ptr rfl fa145_0 rfl rfl) rfl ?_
    refine DT_ev rfl (EA_load_ptr rfl rfl rfl rfl rfl rfl ts119 ta119 rfl (fun _ => rfl)) rfl ?_
    refine DT_ev rfl (EA_move) rfl ?_
    refine DT_ev rfl (EA_nilc_ptr rfl) rfl ?_
    refine DT_ev rfl (EA_fa_ptr rfl fa145_1 rfl rfl) rfl ?_
    refine DT_ev rfl (EA_load_ptr rfl rfl rfl rfl rfl rfl ts3 ta3 rfl (fun _ => rfl)) rfl ?_
    refine DT_ev rfl (EA_ix_sl rfl rfl te119 ts139 (by omega) (by assumption)) rfl ?_
    refine DT_ev rfl (EA_fa_rp rfl fa139_1 rfl rfl) rfl ?_
    refine DT_ev rfl (EA_load_rp rfl rfl rfl ts9 ta9 rfl (fun _ => rfl)) rfl ?_
    refine DT_fcall0 rfl rfl cl177 (c_infixOf g.x) rfl rfl ?_
    refine DT_ev rfl (EA_extract rfl rfl) rfl ?_
    refine DT_ev rfl (EA_extract rfl rfl) rfl ?_
    refine DT_store rfl rfl (nf rfl) rfl rfl rfl rfl rfl rfl (by rfl) ts161 rfl rfl ?_
    refine DT_ev rfl (EA_assign) rfl ?_
    refine Zd hK7 ?_
    refine AC_ret ?_
    exact retr_ok ((s, betw g.x)) (by simp only [nextM]; rw [if_neg hn1, if_pos hgn, hsg]) [0, 1] (CExt.refl _) (.cell rfl rfl rfl rfl rfl rfl ts161 ta161 (by rfl) (by intro h; cases h) (.tmp rfl rfl .nil)) rfl rfl (BxF_stay rfl rfl rfl rfl rfl (.cons (.agg (.cons .d (.cons .d (.cons .d (.cons .d (.cons (.ref rfl) .nil)))))) .nil) rfl (BxF_cons rfl rfl rfl rfl rfl (VxL_d _) (Nat.le_refl _) BxF_nil)) (Nat.le_of_ble_eq_true rfl) (.cons .d (.cons .d .nil))
   ·have hno : ¬ (isM xs s 1 ⟨#[]⟩ = true ∧ (sgAt xs s.i).n = false) := by rw [hsg]; intro h; rw [h.2] at hc3; cases hc3
    refine Zk hK5 ?_
    refine Zs fun _ hK8 => ?_
    refine Ze (Ev_buildD (fs := [.one, .one, .one, .one]) (zs := [.c (.string ⟨#[]⟩), .c (.int .i64 0), .c (.int .i64 0), .c (.int .i64 0)]) tz161 rfl tpl161 .nil rfl) ?_
    refine Ys ts161 ?_
    refine Za ?_
    refine Zn hK8 ?_
    refine AC_ret ?_
    exact retr_ok ((s, op0, false)) (by simp only [nextM]; rw [if_neg hn1, if_neg hno]) [0, 1] (CExt.refl _) (.cell rfl rfl rfl rfl rfl rfl ts161 ta161 (by rfl) (by intro h; cases h) (.tmp rfl rfl .nil)) rfl rfl (BxF_stay rfl rfl rfl rfl rfl (.cons (.agg (.cons .d (.cons .d (.cons .d (.cons .d (.cons (.ref rfl) .nil)))))) .nil) rfl (BxF_cons rfl rfl rfl rfl rfl (VxL_d _) (Nat.le_refl _) BxF_nil)) (Nat.le_of_ble_eq_true rfl) (.cons .d (.cons .d .nil))
  ·have hno : ¬ (isM xs s 1 ⟨#[]⟩ = true ∧ (sgAt xs s.i).n = false) := by rw [hg2]; simp
   iterate 12 refine Df ?_
   refine DT_ev rfl (EA_pick rfl) rfl ?_
   refine Zd hK6 ?_
   refine AC_cond_f rfl ?_
   refine Zk hK5 ?_
   refine Zs fun _ hK9 => ?_
   refine Ze (Ev_buildD (fs := [.one, .one, .one, .one]) (zs := [.c (.string ⟨#[]⟩), .c (.int .i64 0), .c (.int .i64 0), .c (.int .i64 0)]) tz161 rfl tpl161 .nil rfl) ?_
   refine Ys ts161 ?_
   refine Za ?_
   refine Zn hK9 ?_
   refine AC_ret ?_
   exact retr_ok ((s, op0, false)) (by simp only [nextM]; rw [if_neg hn1, if_neg hno]) [0, 1] (CExt.refl _) (.cell rfl rfl rfl rfl rfl rfl ts161 ta161 (by rfl) (by intro h; cases h) (.tmp rfl rfl .nil)) rfl rfl (BxF_stay rfl rfl rfl rfl rfl (.cons (.agg (.cons .d (.cons .d (.cons .d (.cons .d (.cons (.ref rfl) .nil)))))) .nil) rfl (BxF_cons rfl rfl rfl rfl rfl (VxL_d _) (Nat.le_refl _) BxF_nil)) (Nat.le_of_ble_eq_true rfl) (.cons .d (.cons .d .nil))
set_option maxHeartbeats 8000000 in
set_option maxRecDepth 4000 in
theorem c_atomR (xs : List Sg) (s : Rs) (hl : xs.length ≤ 1048576) (hgs : GoodS xs) (d : Int) (n : Nat) (tm : Int → Rs → Rs × T) (htm : TmC Tryz.prog 139 145 9 xs d n tm) (hok : TmOk xs d n tm) (most : Int) (hs : Okr xs d s) (hm : isM xs s 1 ⟨#[]⟩ = true) (hn : xs.length + 2 ≤ n + 1 + s.i) : RcC Tryz.prog 172 145 9 xs s [i64 most] (atomM xs tm most s) (fun t => [.d (inj t.1), i64 t.2]) := by
 obtain ⟨hb, hlt, g, hg, hgk⟩ := isM_lt hm
 have hgx := injGs_get hg
 have hsg : sgAt xs s.i = g := by simp only [sgAt, hg]
 refine HCallX_of (n := 122) Tryz.func172 rfl rfl (Nat.le_of_ble_eq_true rfl) (Nat.le_of_ble_eq_true rfl) fun C0 o hT => ?_
 refine Zs fun _ hK1 => ?_
 refine AL_alloc zo41 _ rfl rfl ?_
 refine Za ?_
 refine Zn hK1 ?_
 refine AC_seq fun _ hK2 => ?_
 refine AC_draw hT follows [0, 1, 2, 3, 4, 5, 6, 7, 8, 9, 10, 11] (by kernel_rfl) ?_
 refine DT_ev rfl (EA_move) rfl ?_
 refine DT_ev rfl (EA_nilc_ptr rfl) rfl ?_
 refine DT_ev rfl (EA_fa_ptr rfl fa145_0 rfl rfl) rfl ?_
 refine DT_ev rfl (EA_load_ptr rfl rfl rfl rfl rfl rfl ts119 ta119 rfl (fun _ => rfl)) rfl ?_
 refine DT_ev rfl (EA_move) rfl ?_
 refine DT_ev rfl (EA_nilc_ptr rfl) rfl ?_
 refine DT_ev rfl (EA_fa_ptr rfl fa145_1 rfl rfl) rfl ?_
 refine DT_ev rfl (EA_load_ptr rfl rfl rfl rfl rfl rfl ts3 ta3 rfl (fun _ => rfl)) rfl ?_
 refine DT_ev rfl (EA_ix_sl rfl rfl te119 ts139 (by omega) (by assumption)) rfl ?_
 refine DT_ev rfl (EA_load_rp rfl rfl rfl ts139 ta139 (by rfl) (by intro h; cases h)) rfl ?_
 refine DT_allocS rfl tz139 rfl rfl (by kernel_rfl) fun Ca1 ba1 hxa1 hba1 hla1 => ?_
 have hTa1 := hT
 have hT := hT.ext hxa1
 refine DTi.t [0, 1, 2, 3, 4, 5, 6, 7, 8, 9, 10, 11] (os := [_]) (by kernel_rfl) rfl ?_
 refine AL_boxraw (s := 6) (l := (Lay.st [.one, .one, .one, .one, .one])) (z := .agg [.one, .one, .one, .one, .one] [.c (.int .i64 0), .c (.string ⟨#[]⟩), .c (.int .i64 0), .c (.int .i64 0), .c (.bool false)]) hxa1 rfl hba1 hla1 rfl (fun _ _ _ => VC_cells rfl) _ rfl ?_
 have hT := hTa1
 refine Ys ts139 ?_
 refine Zn hK2 ?_
 refine AC_seq fun _ hK3 => ?_
 refine Zs fun _ hK4 => ?_
 refine Ya fa139_4 ?_
 refine Yl ts4 ta4 ?_
 refine Zn hK4 ?_
 refine Zc (fun hc1 => ?_) fun hc1 => ?_
 ·refine Zs fun _ hK5 => ?_
  iterate 2 refine Zm ?_
  refine Ze (Ev_nilc_ptr rfl) ?_
  refine Ya fa145_1 ?_
  refine Yl ts3 ta3 ?_
  refine Ze (Ev_add rfl rfl _ (wrap_id (by omega) (by omega))) ?_
  refine Ze (Ev_nilc_ptr rfl) ?_
  refine Ya fa145_1 ?_
  refine Ys ts3 ?_
  refine Zn hK5 ?_
  refine Zs fun _ hK6 => ?_
  refine Zm ?_
  refine Ya fa139_1 ?_
  refine Yl ts9 ta9 ?_
  refine AL_rcc hT 0 4 rfl cl183 (c_some xs { s with i := s.i + 2 } hl d n tm htm hok g.x (hs.adv 2 (by omega)) (fun _ => by show xs.length + 2 ≤ n + (s.i + 2); omega) _ rfl) rfl (.cons .d .nil) rfl rfl rfl rfl rfl (fun _ => (.cons .d .nil)) rfl ?_
  rintro ⟨s1, t1⟩ hz1
  refine Ys ts41 ?_
  refine Za ?_
  refine Zn hK6 ?_
  refine AC_ret ?_
  exact retr_ok ((s1, t1, 0)) (by have e1 : s1 = _ := congrArg Prod.fst hz1; have e2 : t1 = _ := congrArg Prod.snd hz1; simp only [atomM, hsg]; rw [if_pos hc1, e1, e2]) [4, 5] (CExt.refl _) (.cell rfl rfl rfl rfl rfl rfl ts41 ta41 (by simp) (by intro h; cases h) (.tmp rfl rfl .nil)) rfl rfl (BxF_stay rfl rfl rfl rfl rfl (.cons (.agg (.cons .d (.cons .d (.cons .d (.cons .d (.cons (.ref rfl) .nil)))))) .nil) rfl (BxF_cons rfl rfl rfl rfl rfl (VxL_d _) (Nat.le_refl _) BxF_nil)) (Nat.le_of_ble_eq_true rfl) (.cons .d (.cons .d .nil))
 ·have hgn : ¬ g.n = true := by rw [hc1]; decide
  refine Zk hK3 ?_
  refine AC_seqJ (fun f L => (¬ (g.x = ⟨#[45]⟩ ∧ nearM xs s = true)) ∧ f = FS [] (fun _ => V.any) [(0, .ptr LRD 0 0 []), (1, i64 most), (4, .ptr LT 2 0 []), (6, .ptr LSG 3 0 [])] ∧ L = [some (rBox ⟨145, some (o 0)⟩ 1 xs s), some (nBox 9 s), some ⟨41, LT, [.d zT]⟩, some ⟨139, LSG, [.d (injG g)]⟩]) ?_ ?_
  ·refine Zs fun _ hK8 => ?_
   refine Ya fa139_1 ?_
   refine Yl ts9 ta9 ?_
   refine Ze (Ev_seql rfl rfl) ?_
   refine Zm ?_
   refine Zb 39 (fun hg2 => ?_) fun hg2 => ?_
   ·have ht9 : g.x = ⟨#[45]⟩ := of_decide_eq_true hg2
    refine Zt ?_
    refine Zm ?_
    refine Zt ?_
    refine AL_qcall hT rfl cl184 (c_near xs s (by omega) hlt (fun g h => (hgs g h).1)) (.cons (.rd (.ptr trivial rfl rfl rfl (.agg (.cons .d (.cons .d (.cons .d (.cons .d (.cons (.ref trivial rfl rfl (by simp) (ReadsL_d _)) .nil)))))))) .nil) rfl ?_
    refine Zp ?_
    refine Zn hK8 ?_
    refine Zc (fun hc3 => ?_) fun hc3 => ?_
    ·have hq9 : g.x = ⟨#[45]⟩ ∧ nearM xs s = true := ⟨ht9, hc3⟩
     refine Exists.elim (near_get hc3) fun y hy => ?_
     have hy9 := lt_of_get hy
     have hym := (hgs y (List.mem_of_getElem? hy)).2
     have hy3 : (injGs xs)[((((s.i : Nat) : Int) + 2) - 1).toNat]? = some (injG y) := by rw [show ((((s.i : Nat) : Int) + 2) - 1).toNat = s.i + 1 by omega]; simpa using injGs_get hy
     refine Zs fun _ hK9 => ?_
     iterate 2 refine Zm ?_
     refine Ze (Ev_nilc_ptr rfl) ?_
     refine Ya fa145_1 ?_
     refine Yl ts3 ta3 ?_
     refine Ze (Ev_add rfl rfl _ (wrap_id (by omega) (by omega))) ?_
     refine Ze (Ev_nilc_ptr rfl) ?_
     refine Ya fa145_1 ?_
     refine Ys ts3 ?_
     refine Zn hK9 ?_
     refine AC_seq fun _ hK10 => ?_
     refine AC_draw hT follows [0, 1, 2, 3, 4, 5, 6, 7, 8, 9, 10, 11, 12, 13, 14, 15] (by kernel_rfl) ?_
     refine DT_ev rfl (EA_move) rfl ?_
     refine DT_ev rfl (EA_nilc_ptr rfl) rfl ?_
     refine DT_ev rfl (EA_fa_ptr rfl fa145_0 rfl rfl) rfl ?_
     refine DT_ev rfl (EA_load_ptr rfl rfl rfl rfl rfl rfl ts119 ta119 rfl (fun _ => rfl)) rfl ?_
     refine DT_ev rfl (EA_move) rfl ?_
     refine DT_ev rfl (EA_nilc_ptr rfl) rfl ?_
     refine DT_ev rfl (EA_fa_ptr rfl fa145_1 rfl rfl) rfl ?_
     refine DT_ev rfl (EA_load_ptr rfl rfl rfl rfl rfl rfl ts3 ta3 rfl (fun _ => rfl)) rfl ?_
     refine DT_ev rfl (EA_sub rfl rfl _ (wrap_id (by omega) (by omega))) rfl ?_
     refine DT_ev rfl (EA_ix_sl rfl rfl te119 ts139 (by omega) (by assumption)) rfl ?_
     refine DT_ev rfl (EA_fa_rp rfl fa139_2 rfl rfl) rfl ?_
     refine DT_ev rfl (EA_load_rp rfl rfl rfl ts3 ta3 rfl (fun _ => rfl)) rfl ?_
     refine DT_ev rfl (EA_neg rfl _ (wrap_id (by omega) (by omega))) rfl ?_
     refine DT_fcall0 rfl rfl cl119 (c_num03 (-y.m)) rfl rfl ?_
     refine DT_store rfl rfl (nf rfl) rfl rfl rfl rfl rfl rfl (by rfl) ts41 rfl rfl ?_
     refine DT_ev rfl (EA_assign) rfl ?_
     refine Zd hK10 ?_
     refine AC_ret ?_
     exact retr_ok (({ s with i := s.i + 2 }, .mk 3 ⟨#[]⟩ (-y.m) [], 0)) (by simp only [atomM, hsg]; rw [if_neg hgn, if_pos hq9]; simp only [sgAt, hy]) [0, 1] (CExt.refl _) (.cell rfl rfl rfl rfl rfl rfl ts41 ta41 (by rfl) (by intro h; cases h) (.tmp rfl rfl .nil)) rfl rfl (BxF_stay rfl rfl rfl rfl rfl (.cons (.agg (.cons .d (.cons .d (.cons .d (.cons .d (.cons (.ref rfl) .nil)))))) .nil) rfl (BxF_cons rfl rfl rfl rfl rfl (VxL_d _) (Nat.le_refl _) BxF_nil)) (Nat.le_of_ble_eq_true rfl) (.cons .d (.cons .d .nil))
    ·have hJ : ¬ (g.x = ⟨#[45]⟩ ∧ nearM xs s = true) := by rw [hc3]; simp
     refine AC_skip ?_
     exact fin_wk ((enterS (ks := []) (g := fun _ => V.any) (ms := [(0, .ptr LRD 0 0 []), (1, i64 most), (4, .ptr LT 2 0 []), (6, .ptr LSG 3 0 [])]) (L2 := [some (rBox ⟨145, some (o 0)⟩ 1 xs s), some (nBox 9 s), some ⟨41, LT, [.d zT]⟩, some ⟨139, LSG, [.d (injG g)]⟩]) [some 0, some 1, some 2, some 3] rfl rfl (Bx (.cons (.agg (.cons (.rd .d) (.cons (.rd .d) (.cons (.rd .d) (.cons (.rd .d) (.cons (.ref rfl) .nil)))))) .nil) (Bx (VwL_d _) (Bx (.cons (.rd .d) .nil) (Bx (.cons (.rd .d) .nil) BxTo_nil)))) Sl_).mono (by rintro f L ⟨rfl, rfl⟩; exact ⟨hJ, rfl, rfl⟩))
   ·have hJ : ¬ (g.x = ⟨#[45]⟩ ∧ nearM xs s = true) := fun h => of_decide_eq_false hg2 h.1
    iterate 2 refine Zg ?_
    refine Zp ?_
    refine Zn hK8 ?_
    refine AC_cond_f rfl ?_
    refine AC_skip ?_
    exact fin_wk ((enterS (ks := []) (g := fun _ => V.any) (ms := [(0, .ptr LRD 0 0 []), (1, i64 most), (4, .ptr LT 2 0 []), (6, .ptr LSG 3 0 [])]) (L2 := [some (rBox ⟨145, some (o 0)⟩ 1 xs s), some (nBox 9 s), some ⟨41, LT, [.d zT]⟩, some ⟨139, LSG, [.d (injG g)]⟩]) [some 0, some 1, some 2, some 3] rfl rfl (Bx (.cons (.agg (.cons (.rd .d) (.cons (.rd .d) (.cons (.rd .d) (.cons (.rd .d) (.cons (.ref rfl) .nil)))))) .nil) (Bx (VwL_d _) (Bx (.cons (.rd .d) .nil) (Bx (.cons (.rd .d) .nil) BxTo_nil)))) Sl_).mono (by rintro f L ⟨rfl, rfl⟩; exact ⟨hJ, rfl, rfl⟩))
  ·rintro f L ⟨hJ, rfl, rfl⟩
   have hno9 := hJ
   refine Zs fun _ hK11 => ?_
   refine Ya fa139_1 ?_
   refine Yl ts9 ta9 ?_
   refine AL_fcall0 hT rfl cl185 (c_prefixOf g.x) rfl rfl ?_
   refine Zm ?_
   refine Ze (Ev_extract rfl rfl) ?_
   refine Ze (Ev_extract rfl rfl) ?_
   refine AL_alloc zo161 _ rfl rfl ?_
   refine Ys ts161 ?_
   refine Za ?_
   refine Zn hK11 ?_
   refine AC_seqJ (fun f L => (¬ ((preO g.x).2 = true ∧ (preO g.x).1.pr ≤ most)) ∧ f = FS [] (fun _ => V.any) [(0, .ptr LRD 0 0 []), (1, i64 most), (4, .ptr LT 2 0 []), (6, .ptr LSG 3 0 []), (8, bl (preO g.x).2)] ∧ L = [some (rBox ⟨145, some (o 0)⟩ 1 xs s), some (nBox 9 s), some ⟨41, LT, [.d zT]⟩, some ⟨139, LSG, [.d (injG g)]⟩]) ?_ ?_
   ·refine Zs fun _ hK13 => ?_
    iterate 2 refine Zm ?_
    refine Zb 72 (fun hg4 => ?_) fun hg4 => ?_
    ·refine Zt ?_
     refine Ya fa161_1 ?_
     refine Zt ?_
     refine Yl ts3 ta3 ?_
     refine Zt ?_
     refine Zm ?_
     refine Zt ?_
     refine Ze (Ev_leq rfl rfl) ?_
     refine Zp ?_
     refine Zn hK13 ?_
     refine Zc (fun hc5 => ?_) fun hc5 => ?_
     ·have hq3 : (preO g.x).2 = true ∧ (preO g.x).1.pr ≤ most := ⟨hg4, of_decide_eq_true hc5⟩
      refine Zs fun _ hK14 => ?_
      iterate 2 refine Zm ?_
      refine Ze (Ev_nilc_ptr rfl) ?_
      refine Ya fa145_1 ?_
      refine Yl ts3 ta3 ?_
      refine Ze (Ev_add rfl rfl _ (wrap_id (by omega) (by omega))) ?_
      refine Ze (Ev_nilc_ptr rfl) ?_
      refine Ya fa145_1 ?_
      refine Ys ts3 ?_
      refine Zn hK14 ?_
      refine Zs fun _ hK15 => ?_
      refine Zm ?_
      refine Ya fa161_3 ?_
      refine Yl ts3 ta3 ?_
      refine AL_rcc hT 0 5 rfl cl139 (htm (preO g.x).1.r { s with i := s.i + 1 } (hs.adv 1 (by omega)) hb (by show xs.length + 2 ≤ n + (s.i + 1); omega)) rfl (.cons .d .nil) rfl rfl rfl rfl rfl (fun _ => (.cons .d .nil)) rfl ?_
      rintro ⟨s2, t2⟩ hz2
      refine AL_alloc zo41 _ rfl rfl ?_
      refine Ys ts41 ?_
      refine Zn hK15 ?_
      refine AC_seq fun _ hK16 => ?_
      refine AC_wk (Wk_to [some 5, some 6, some 2] [(0, .ptr LRD 0 0 []), (4, .ptr LT 2 0 []), (6, .d (.rp LSG (injG g) [])), (7, .d (.rp (Lay.st [.one, .one, .one, .one]) (injO (preO g.x).1) [])), (9, .d (.rp LT (inj t2) []))] [some (rBox ⟨145, some (o 0)⟩ 1 xs s2), some (nBox 9 s2), some ⟨41, LT, [.d zT]⟩] rfl rfl (Bx (.cons (.agg (.cons (.rd .d) (.cons (.rd .d) (.cons (.rd .d) (.cons (.rd .d) (.cons (.ref rfl) .nil)))))) .nil) (Bx (VwL_d _) (Bx (.cons (.rd .d) .nil) BxTo_nil))) Sl_ ?_)
      refine AC_drawq hT follows [96] [0, 1, 2, 5, 6, 3, 4, 7, 8] (by kernel_rfl) ?_
      refine DT_ev rfl (EA_fa_rp rfl fa139_1 rfl rfl) rfl ?_
      refine DT_ev rfl (EA_load_rp rfl rfl rfl ts9 ta9 rfl (fun _ => rfl)) rfl ?_
      refine DT_ev rfl (EA_load_rp rfl rfl rfl ts41 ta41 (by simp) (by intro h; cases h)) rfl ?_
      refine DT_ev rfl (EA_fa_rp rfl fa161_1 rfl rfl) rfl ?_
      refine DT_loadq rfl rfl rfl rfl ts3 ta3 rfl (fun _ => rfl) rfl ?_
      refine DT_bD (Lay.st [.one, .one, .one, .one]) rfl rfl te39 ts41 tz41 rfl rfl (by decide) (by decide) (by simp [lenDs, goodVs, goodV, V.known, Lay.len, Lay.lens]) rfl ?_
      refine DT_ev rfl (EA_build (fs := [.one, .one, .one, .one]) (zs := [.c (.int .i64 0), .c (.string ⟨#[]⟩), .c (.int .i64 0), .c (.slice none 0 0)]) tz41 rfl tpl41 (.cons rfl rfl (by rfl) (.cons rfl rfl (by rfl) (.cons rfl rfl (by rfl) .nil)))) rfl ?_
      refine DT_store rfl rfl (nf rfl) rfl rfl rfl rfl rfl rfl (by rfl) ts41 rfl rfl ?_
      refine DT_ev rfl (EA_assign) rfl ?_
      refine Zd hK16 ?_
      refine AC_ret ?_
      refine fin_of_wk (enterS (ks := []) (g := fun _ => V.any) (ms := [(4, .ptr LT 2 0 []), (5, i64 (preO g.x).1.pr)]) (L2 := [some (rBox ⟨145, some (o 0)⟩ 1 xs (s2)), some (nBox 9 (s2)), some ⟨41, LT, [.d (inj (.mk 4 g.x 0 [t2]))]⟩]) [some 0, some 1, some 2] rfl rfl (Bx (.cons (.agg (.cons (.rd .d) (.cons (.rd .d) (.cons (.rd .d) (.cons (.rd .d) (.cons (.ref rfl) .nil)))))) .nil) (Bx (VwL_d _) (Bx (.cons (.rd (.agg (.cons .d (.cons .d (.cons .d (.cons (.d) .nil)))))) .nil) BxTo_nil))) Sl_) ?_
      rintro f L ⟨rfl, rfl⟩
      exact retr_ok ((s2, .mk 4 g.x 0 [t2], (preO g.x).1.pr)) (by simp only [atomM, hsg]; rw [if_neg hgn, if_neg hno9, if_pos hq3, ← hz2]) [0, 1] (CExt.refl _) (.cell rfl rfl rfl rfl rfl rfl ts41 ta41 (by rfl) (by intro h; cases h) (.tmp rfl rfl .nil)) rfl rfl (BxF_stay rfl rfl rfl rfl rfl (.cons (.agg (.cons .d (.cons .d (.cons .d (.cons .d (.cons (.ref rfl) .nil)))))) .nil) rfl (BxF_cons rfl rfl rfl rfl rfl (VxL_d _) (Nat.le_refl _) BxF_nil)) (Nat.le_of_ble_eq_true rfl) (.cons .d (.cons .d .nil))
     ·have hJ : ¬ ((preO g.x).2 = true ∧ (preO g.x).1.pr ≤ most) := fun h => of_decide_eq_false hc5 h.2
      refine AC_skip ?_
      exact fin_wk ((enterS (ks := []) (g := fun _ => V.any) (ms := [(0, .ptr LRD 0 0 []), (1, i64 most), (4, .ptr LT 2 0 []), (6, .ptr LSG 3 0 []), (8, bl (preO g.x).2)]) (L2 := [some (rBox ⟨145, some (o 0)⟩ 1 xs s), some (nBox 9 s), some ⟨41, LT, [.d zT]⟩, some ⟨139, LSG, [.d (injG g)]⟩]) [some 0, some 1, some 2, some 3] rfl rfl (Bx (.cons (.agg (.cons (.rd .d) (.cons (.rd .d) (.cons (.rd .d) (.cons (.rd .d) (.cons (.ref rfl) .nil)))))) .nil) (Bx (VwL_d _) (Bx (.cons (.rd .d) .nil) (Bx (.cons (.rd .d) .nil) BxTo_nil)))) Sl_).mono (by rintro f L ⟨rfl, rfl⟩; exact ⟨hJ, rfl, rfl⟩))
    ·have hJ : ¬ ((preO g.x).2 = true ∧ (preO g.x).1.pr ≤ most) := by rw [hg4]; simp
     iterate 4 refine Zg ?_
     refine Zp ?_
     refine Zn hK13 ?_
     refine AC_cond_f rfl ?_
     refine AC_skip ?_
     exact fin_wk ((enterS (ks := []) (g := fun _ => V.any) (ms := [(0, .ptr LRD 0 0 []), (1, i64 most), (4, .ptr LT 2 0 []), (6, .ptr LSG 3 0 []), (8, bl (preO g.x).2)]) (L2 := [some (rBox ⟨145, some (o 0)⟩ 1 xs s), some (nBox 9 s), some ⟨41, LT, [.d zT]⟩, some ⟨139, LSG, [.d (injG g)]⟩]) [some 0, some 1, some 2, some 3] rfl rfl (Bx (.cons (.agg (.cons (.rd .d) (.cons (.rd .d) (.cons (.rd .d) (.cons (.rd .d) (.cons (.ref rfl) .nil)))))) .nil) (Bx (VwL_d _) (Bx (.cons (.rd .d) .nil) (Bx (.cons (.rd .d) .nil) BxTo_nil)))) Sl_).mono (by rintro f L ⟨rfl, rfl⟩; exact ⟨hJ, rfl, rfl⟩))
   ·rintro f L ⟨hJ, rfl, rfl⟩
    have hno3 := hJ
    refine Zs fun _ hK17 => ?_
    refine Ya fa139_1 ?_
    refine Yl ts9 ta9 ?_
    refine AL_fcall0 hT rfl cl177 (c_infixOf g.x) rfl rfl ?_
    refine Zm ?_
    refine Ze (Ev_extract rfl rfl) ?_
    refine Ze (Ev_extract rfl rfl) ?_
    refine AL_alloc zo161 _ rfl rfl ?_
    refine Ys ts161 ?_
    refine Za ?_
    refine Zn hK17 ?_
    refine AC_seq fun _ hK18 => ?_
    refine Zs fun _ hK19 => ?_
    iterate 2 refine Zm ?_
    refine Zb 104 (fun hg6 => ?_) fun hg6 => ?_
    ·have hq4 : (preO g.x).2 = true ∨ (betw g.x).2 = true := .inl hg6
     refine Zg ?_
     refine Zp ?_
     refine Zn hK19 ?_
     refine AC_cond_t rfl ?_
     refine Zs fun _ hK20 => ?_
     refine Zm ?_
     refine Ze (Ev_nilc_ptr rfl) ?_
     refine Ya fa145_2 ?_
     refine Ys ts4 ?_
     refine Zn hK20 ?_
     refine Zs fun _ hK21 => ?_
     refine Ze (Ev_build (fs := [.one, .one, .one, .one]) (zs := [.c (.int .i64 0), .c (.string ⟨#[]⟩), .c (.int .i64 0), .c (.slice none 0 0)]) tz41 rfl tpl41 .nil) ?_
     refine Ys ts41 ?_
     refine Za ?_
     refine Zn hK21 ?_
     refine AC_ret ?_
     refine fin_of_wk (enterS (ks := []) (g := fun _ => V.any) (ms := [(4, .ptr LT 2 0 []), (5, i64 0)]) (L2 := [some (rBox ⟨145, some (o 0)⟩ 1 xs ({ s with bad := true })), some (nBox 9 ({ s with bad := true })), some ⟨41, LT, [.d (inj (term0))]⟩]) [some 0, some 1, some 2] rfl rfl (Bx (.cons (.agg (.cons (.rd .d) (.cons (.rd .d) (.cons (.rd .d) (.cons (.rd .d) (.cons (.ref rfl) .nil)))))) .nil) (Bx (VwL_d _) (Bx (.cons (.rd (.agg (.cons .d (.cons .d (.cons .d (.cons (.nil) .nil)))))) .nil) BxTo_nil))) Sl_) ?_
     rintro f L ⟨rfl, rfl⟩
     exact retr_ok (({ s with bad := true }, term0, 0)) (by simp only [atomM, hsg]; rw [if_neg hgn, if_neg hno9, if_neg hno3, if_pos hq4]) [0, 1] (CExt.refl _) (.cell rfl rfl rfl rfl rfl rfl ts41 ta41 (by rfl) (by intro h; cases h) (.tmp rfl rfl .nil)) rfl rfl (BxF_stay rfl rfl rfl rfl rfl (.cons (.agg (.cons .d (.cons .d (.cons .d (.cons .d (.cons (.ref rfl) .nil)))))) .nil) rfl (BxF_cons rfl rfl rfl rfl rfl (VxL_d _) (Nat.le_refl _) BxF_nil)) (Nat.le_of_ble_eq_true rfl) (.cons .d (.cons .d .nil))
    ·refine Zt ?_
     refine Zm ?_
     refine Zp ?_
     refine Zn hK19 ?_
     refine Zc (fun hc7 => ?_) fun hc7 => ?_
     ·have hq4 : (preO g.x).2 = true ∨ (betw g.x).2 = true := .inr hc7
      refine Zs fun _ hK22 => ?_
      refine Zm ?_
      refine Ze (Ev_nilc_ptr rfl) ?_
      refine Ya fa145_2 ?_
      refine Ys ts4 ?_
      refine Zn hK22 ?_
      refine Zs fun _ hK23 => ?_
      refine Ze (Ev_build (fs := [.one, .one, .one, .one]) (zs := [.c (.int .i64 0), .c (.string ⟨#[]⟩), .c (.int .i64 0), .c (.slice none 0 0)]) tz41 rfl tpl41 .nil) ?_
      refine Ys ts41 ?_
      refine Za ?_
      refine Zn hK23 ?_
      refine AC_ret ?_
      refine fin_of_wk (enterS (ks := []) (g := fun _ => V.any) (ms := [(4, .ptr LT 2 0 []), (5, i64 0)]) (L2 := [some (rBox ⟨145, some (o 0)⟩ 1 xs ({ s with bad := true })), some (nBox 9 ({ s with bad := true })), some ⟨41, LT, [.d (inj (term0))]⟩]) [some 0, some 1, some 2] rfl rfl (Bx (.cons (.agg (.cons (.rd .d) (.cons (.rd .d) (.cons (.rd .d) (.cons (.rd .d) (.cons (.ref rfl) .nil)))))) .nil) (Bx (VwL_d _) (Bx (.cons (.rd (.agg (.cons .d (.cons .d (.cons .d (.cons (.nil) .nil)))))) .nil) BxTo_nil))) Sl_) ?_
      rintro f L ⟨rfl, rfl⟩
      exact retr_ok (({ s with bad := true }, term0, 0)) (by simp only [atomM, hsg]; rw [if_neg hgn, if_neg hno9, if_neg hno3, if_pos hq4]) [0, 1] (CExt.refl _) (.cell rfl rfl rfl rfl rfl rfl ts41 ta41 (by rfl) (by intro h; cases h) (.tmp rfl rfl .nil)) rfl rfl (BxF_stay rfl rfl rfl rfl rfl (.cons (.agg (.cons .d (.cons .d (.cons .d (.cons .d (.cons (.ref rfl) .nil)))))) .nil) rfl (BxF_cons rfl rfl rfl rfl rfl (VxL_d _) (Nat.le_refl _) BxF_nil)) (Nat.le_of_ble_eq_true rfl) (.cons .d (.cons .d .nil))
     ·have hno4 : ¬ ((preO g.x).2 = true ∨ (betw g.x).2 = true) := by rw [hg6, hc7]; simp
      refine Zk hK18 ?_
      refine Zs fun _ hK24 => ?_
      iterate 2 refine Zm ?_
      refine Ze (Ev_nilc_ptr rfl) ?_
      refine Ya fa145_1 ?_
      refine Yl ts3 ta3 ?_
      refine Ze (Ev_add rfl rfl _ (wrap_id (by omega) (by omega))) ?_
      refine Ze (Ev_nilc_ptr rfl) ?_
      refine Ya fa145_1 ?_
      refine Ys ts3 ?_
      refine Zn hK24 ?_
      refine Zs fun _ hK25 => ?_
      refine Ya fa139_1 ?_
      refine Yl ts9 ta9 ?_
      refine AL_fcall0 hT rfl cl58 (c_atom03 g.x) rfl rfl ?_
      refine Ys ts41 ?_
      refine Za ?_
      refine Zn hK25 ?_
      refine AC_ret ?_
      exact retr_ok (({ s with i := s.i + 1 }, atom0 g.x, 0)) (by simp only [atomM, hsg]; rw [if_neg hgn, if_neg hno9, if_neg hno3, if_neg hno4]) [0, 1] (CExt.refl _) (.cell rfl rfl rfl rfl rfl rfl ts41 ta41 (by rfl) (by intro h; cases h) (.tmp rfl rfl .nil)) rfl rfl (BxF_stay rfl rfl rfl rfl rfl (.cons (.agg (.cons .d (.cons .d (.cons .d (.cons .d (.cons (.ref rfl) .nil)))))) .nil) rfl (BxF_cons rfl rfl rfl rfl rfl (VxL_d _) (Nat.le_refl _) BxF_nil)) (Nat.le_of_ble_eq_true rfl) (.cons .d (.cons .d .nil))
end Go.Proofs.YtjgliechbnommaaGreatDoor
set_option linter.unusedVariables false
set_option linter.unusedSimpArgs false
namespace Go.Proofs.YtjgliechbnommaaGreatDoor
open Go.Eng
theorem cl161 : Callable Tryz.prog 161 := Zq Tryz.func161
theorem cl162 : Callable Tryz.prog 162 := Zq Tryz.func162
theorem cl172 : Callable Tryz.prog 172 := Zq Tryz.func172
theorem cl174 : Callable Tryz.prog 174 := Zq Tryz.func174
theorem cl175 : Callable Tryz.prog 175 := Zq Tryz.func175
theorem cl176 : Callable Tryz.prog 176 := Zq Tryz.func176
theorem fa145_3 : tyField Tryz.prog 145 3 = some (3, true) := by kernel_rfl
theorem fa161_0 : tyField Tryz.prog 161 0 = some (0, true) := by kernel_rfl
theorem fa161_2 : tyField Tryz.prog 161 2 = some (2, true) := by kernel_rfl
set_option maxHeartbeats 8000000 in
set_option maxRecDepth 4000 in
theorem c_primary (xs : List Sg) (s : Rs) (hl : xs.length ≤ 1048576) (hgs : GoodS xs) (d : Int) (n : Nat) (tm : Int → Rs → Rs × T) (htm : TmC Tryz.prog 139 145 9 xs d n tm) (hok : TmOk xs d n tm) (most : Int) (hs : Okr xs d s) (hb : s.bad = false) (hn : xs.length + 2 ≤ n + 1 + s.i) : RcC Tryz.prog 161 145 9 xs s [i64 most] (primM xs tm most s) (fun t => [.d (inj t.1), i64 t.2]) := by
 have hsi := hs.hi
 have hnn := hs.hn
 refine HCallX_of (n := 77) Tryz.func161 rfl rfl (Nat.le_of_ble_eq_true rfl) (Nat.le_of_ble_eq_true rfl) fun C0 o hT => ?_
 refine Zs fun _ hK1 => ?_
 refine AL_alloc zo41 _ rfl rfl ?_
 refine Za ?_
 refine Zn hK1 ?_
 refine AC_seq fun _ hK2 => ?_
 refine AC_block ?_
 refine Zs fun _ hK3 => ?_
 refine Zm ?_
 refine AL_qcall hT rfl cl140 (c_is xs (s) 1 (⟨#[]⟩) (by omega)) (.cons (.rd (.ptr trivial rfl rfl rfl (.agg (.cons .d (.cons .d (.cons .d (.cons .d (.cons (.ref trivial rfl rfl (by simp) (ReadsL_d _)) .nil)))))))) (.cons (.rd .d) (.cons (.rd .d) .nil))) rfl ?_
 refine Za ?_
 refine Zn hK3 ?_
 refine Zc (fun hc1 => ?_) fun hc1 => ?_
 ·refine Zs fun _ hK4 => ?_
  iterate 2 refine Zm ?_
  refine AL_rcc hT 0 3 rfl cl172 (c_atomR xs s hl hgs d n tm htm hok most hs hc1 hn) rfl (.cons .d .nil) rfl rfl rfl rfl rfl (fun _ => (.cons .d (.cons .d .nil))) rfl ?_
  rintro ⟨s1, t1⟩ hz1
  refine Ze (Ev_extract rfl rfl) ?_
  refine Ze (Ev_extract rfl rfl) ?_
  refine Ys ts41 ?_
  refine Za ?_
  refine Zn hK4 ?_
  refine AC_ret ?_
  exact retr_ok ((s1, t1)) (by simp only [primM]; rw [if_pos hc1]; exact hz1) [3, 4] (CExt.refl _) (.cell rfl rfl rfl rfl rfl rfl ts41 ta41 (by simp) (by intro h; cases h) (.tmp rfl rfl .nil)) rfl rfl (BxF_stay rfl rfl rfl rfl rfl (.cons (.agg (.cons .d (.cons .d (.cons .d (.cons .d (.cons (.ref rfl) .nil)))))) .nil) rfl (BxF_cons rfl rfl rfl rfl rfl (VxL_d _) (Nat.le_refl _) BxF_nil)) (Nat.le_of_ble_eq_true rfl) (.cons .d (.cons .d .nil))
 ·have hn1 : ¬ isM xs s 1 ⟨#[]⟩ = true := by rw [hc1]; decide
  refine Zs fun _ hK5 => ?_
  refine Zm ?_
  refine AL_rcc hT 0 3 rfl cl173 (c_mark xs s hl ⟨#[40]⟩ hs.hi) rfl (.cons .d .nil) rfl rfl rfl rfl rfl (fun _ => (.cons .d .nil)) rfl ?_
  rintro ⟨s2, t2⟩ hz2
  refine Za ?_
  refine Zn hK5 ?_
  refine Zc (fun hc2 => ?_) fun hc2 => ?_
  ·subst hc2
   have hm2 := mark_t hz2
   have hl2 := isM_lt hm2.1
   have hok2 : Okr xs d s2 := by rw [hm2.2]; exact hs.adv 1 (by omega)
   have hb2 : s2.bad = false := by rw [hm2.2]; exact hb
   have hn2 : xs.length + 2 ≤ n + s2.i := by rw [hm2.2]; show xs.length + 2 ≤ n + (s.i + 1); omega
   refine Zs fun _ hK6 => ?_
   refine Zm ?_
   refine AL_rcc hT 3 5 rfl cl174 (c_round xs s2 hl d n tm htm hok hok2 hb2 hn2) rfl .nil rfl rfl rfl rfl rfl (fun _ => (.cons .d .nil)) rfl ?_
   rintro ⟨s3, t3⟩ hz3
   refine Ys ts41 ?_
   refine Za ?_
   refine Zn hK6 ?_
   refine AC_ret ?_
   exact retr_ok ((s3, t3, 0)) (by simp only [primM]; rw [if_neg hn1, if_pos hm2.1, ← hm2.2, ← hz3]) [5, 6] (CExt.refl _) (.cell rfl rfl rfl rfl rfl rfl ts41 ta41 (by simp) (by intro h; cases h) (.tmp rfl rfl .nil)) rfl rfl (BxF_stay rfl rfl rfl rfl rfl (.cons (.agg (.cons .d (.cons .d (.cons .d (.cons .d (.cons (.ref rfl) .nil)))))) .nil) rfl (BxF_cons rfl rfl rfl rfl rfl (VxL_d _) (Nat.le_refl _) BxF_nil)) (Nat.le_of_ble_eq_true rfl) (.cons .d (.cons .d .nil))
  ·subst hc2
   have hm2 := mark_f hz2
   have hn2 : ¬ isM xs s 4 ⟨#[40]⟩ = true := by rw [hm2.1]; decide
   refine Zs fun _ hK7 => ?_
   refine Zm ?_
   refine AL_rcc hT 3 5 rfl cl173 (c_mark xs s2 hl ⟨#[91]⟩ (by rw [hm2.2]; exact hs.hi)) rfl (.cons .d .nil) rfl rfl rfl rfl rfl (fun _ => (.cons .d .nil)) rfl ?_
   rintro ⟨s4, t4⟩ hz4
   refine Za ?_
   refine Zn hK7 ?_
   refine Zc (fun hc3 => ?_) fun hc3 => ?_
   ·subst hc3
    have hm4 := mark_t hz4
    rw [hm2.2] at hm4
    have hl4 := isM_lt hm4.1
    have hok4 : Okr xs d s4 := by rw [hm4.2]; exact hs.adv 1 (by omega)
    have hb4 : s4.bad = false := by rw [hm4.2]; exact hb
    have hn4 : xs.length + 2 ≤ n + s4.i := by rw [hm4.2]; show xs.length + 2 ≤ n + (s.i + 1); omega
    refine Zs fun _ hK8 => ?_
    refine Zm ?_
    refine AL_rcc hT 5 7 rfl cl175 (c_row xs s4 hl d n tm htm hok hok4 hb4 hn4 _ rfl) rfl .nil rfl rfl rfl rfl rfl (fun _ => (.cons .d .nil)) rfl ?_
    rintro ⟨s5, t5⟩ hz5
    refine Ys ts41 ?_
    refine Za ?_
    refine Zn hK8 ?_
    refine AC_ret ?_
    exact retr_ok ((s5, t5, 0)) (by simp only [primM]; rw [if_neg hn1, if_neg hn2, if_pos hm4.1, ← hm4.2, ← hz5]) [7, 8] (CExt.refl _) (.cell rfl rfl rfl rfl rfl rfl ts41 ta41 (by simp) (by intro h; cases h) (.tmp rfl rfl .nil)) rfl rfl (BxF_stay rfl rfl rfl rfl rfl (.cons (.agg (.cons .d (.cons .d (.cons .d (.cons .d (.cons (.ref rfl) .nil)))))) .nil) rfl (BxF_cons rfl rfl rfl rfl rfl (VxL_d _) (Nat.le_refl _) BxF_nil)) (Nat.le_of_ble_eq_true rfl) (.cons .d (.cons .d .nil))
   ·subst hc3
    have hm4 := mark_f hz4
    rw [hm2.2] at hm4
    have hn4 : ¬ isM xs s 4 ⟨#[91]⟩ = true := by rw [hm4.1]; decide
    have hi4 : s4.i ≤ xs.length + 1 := by rw [hm4.2]; exact hsi
    refine AC_seq fun _ hK9 => ?_
    refine AC_wk (Wk_to [some 5, some 6, some 2] [(0, .ptr LRD 0 0 []), (4, .ptr LT 2 0 [])] [some (rBox ⟨145, some (o 0)⟩ 1 xs s4), some (nBox 9 s4), some ⟨41, LT, [.d zT]⟩] rfl rfl (Bx (.cons (.agg (.cons (.rd .d) (.cons (.rd .d) (.cons (.rd .d) (.cons (.rd .d) (.cons (.ref rfl) .nil)))))) .nil) (Bx (VwL_d _) (Bx (.cons (.rd .d) .nil) BxTo_nil))) Sl_ ?_)
    refine AC_region ?_
    refine Zm ?_
    refine AL_qcall hT rfl cl140 (c_is xs (s4) 3 (⟨#[]⟩) (by omega)) (.cons (.rd (.ptr trivial rfl rfl rfl (.agg (.cons .d (.cons .d (.cons .d (.cons .d (.cons (.ref trivial rfl rfl (by simp) (ReadsL_d _)) .nil)))))))) (.cons (.rd .d) (.cons (.rd .d) .nil))) rfl ?_
    refine Za ?_
    refine Zn hK9 ?_
    refine Zc (fun hc4 => ?_) fun hc4 => ?_
    ·have hl6 := isM_lt hc4
     refine Exists.elim (show ∃ v, xs[s4.i]? = some v from ⟨_, List.getElem?_eq_getElem hl6.2.1⟩) fun g hg => ?_
     have hg3 : (injGs xs)[((((s4.i : Nat) : Int) + 1) - 1).toNat]? = some (injG g) := by rw [show ((((s4.i : Nat) : Int) + 1) - 1).toNat = s4.i by omega]; simpa using injGs_get hg
     refine Zs fun _ hK10 => ?_
     iterate 2 refine Zm ?_
     refine Ze (Ev_nilc_ptr rfl) ?_
     refine Ya fa145_1 ?_
     refine Yl ts3 ta3 ?_
     refine Ze (Ev_add rfl rfl _ (wrap_id (by omega) (by omega))) ?_
     refine Ze (Ev_nilc_ptr rfl) ?_
     refine Ya fa145_1 ?_
     refine Ys ts3 ?_
     refine Zn hK10 ?_
     refine AC_seq fun _ hK11 => ?_
     refine AC_draw hT follows [0, 1, 2, 3, 4, 5, 6, 7, 8, 9, 10, 11, 12, 13, 14] (by kernel_rfl) ?_
     refine DT_ev rfl (EA_move) rfl ?_
     refine DT_ev rfl (EA_nilc_ptr rfl) rfl ?_
     refine DT_ev rfl (EA_fa_ptr rfl fa145_0 rfl rfl) rfl ?_
     refine DT_ev rfl (EA_load_ptr rfl rfl rfl rfl rfl rfl ts119 ta119 rfl (fun _ => rfl)) rfl ?_
     refine DT_ev rfl (EA_move) rfl ?_
     refine DT_ev rfl (EA_nilc_ptr rfl) rfl ?_
     refine DT_ev rfl (EA_fa_ptr rfl fa145_1 rfl rfl) rfl ?_
     refine DT_ev rfl (EA_load_ptr rfl rfl rfl rfl rfl rfl ts3 ta3 rfl (fun _ => rfl)) rfl ?_
     refine DT_ev rfl (EA_sub rfl rfl _ (wrap_id (by omega) (by omega))) rfl ?_
     refine DT_ev rfl (EA_ix_sl rfl rfl te119 ts139 (by omega) (by assumption)) rfl ?_
     refine DT_ev rfl (EA_fa_rp rfl fa139_2 rfl rfl) rfl ?_
     refine DT_ev rfl (EA_load_rp rfl rfl rfl ts3 ta3 rfl (fun _ => rfl)) rfl ?_
     refine DT_fcall0 rfl rfl cl119 (c_num03 g.m) rfl rfl ?_
     refine DT_store rfl rfl (nf rfl) rfl rfl rfl rfl rfl rfl (by rfl) ts41 rfl rfl ?_
     refine DT_ev rfl (EA_assign) rfl ?_
     refine Zd hK11 ?_
     refine AC_ret ?_
     exact retr_ok (({ s4 with i := s4.i + 1 }, .mk 3 ⟨#[]⟩ g.m [], 0)) (by have e := hm4.2; subst e; simp only [primM]; rw [if_neg hn1, if_neg hn2, if_neg hn4, if_pos hc4]; simp only [sgAt, hg]) [0, 1] (CExt.refl _) (.cell rfl rfl rfl rfl rfl rfl ts41 ta41 (by rfl) (by intro h; cases h) (.tmp rfl rfl .nil)) rfl rfl (BxF_stay rfl rfl rfl rfl rfl (.cons (.agg (.cons .d (.cons .d (.cons .d (.cons .d (.cons (.ref rfl) .nil)))))) .nil) rfl (BxF_cons rfl rfl rfl rfl rfl (VxL_d _) (Nat.le_refl _) BxF_nil)) (Nat.le_of_ble_eq_true rfl) (.cons .d (.cons .d .nil))
    ·have hn6 : ¬ isM xs s 3 ⟨#[]⟩ = true := by rw [← hm4.2, hc4]; decide
     refine Zs fun _ hK12 => ?_
     refine Zm ?_
     refine AL_qcall hT rfl cl140 (c_is xs (s4) 2 (⟨#[]⟩) (by omega)) (.cons (.rd (.ptr trivial rfl rfl rfl (.agg (.cons .d (.cons .d (.cons .d (.cons .d (.cons (.ref trivial rfl rfl (by simp) (ReadsL_d _)) .nil)))))))) (.cons (.rd .d) (.cons (.rd .d) .nil))) rfl ?_
     refine Za ?_
     refine Zn hK12 ?_
     refine Zc (fun hc5 => ?_) fun hc5 => ?_
     ·have hl6 := isM_lt hc5
      refine Exists.elim (show ∃ v, xs[s4.i]? = some v from ⟨_, List.getElem?_eq_getElem hl6.2.1⟩) fun g hg => ?_
      have hg3 : (injGs xs)[((((s4.i : Nat) : Int) + 1) - 1).toNat]? = some (injG g) := by rw [show ((((s4.i : Nat) : Int) + 1) - 1).toNat = s4.i by omega]; simpa using injGs_get hg
      refine Zs fun _ hK13 => ?_
      iterate 2 refine Zm ?_
      refine Ze (Ev_nilc_ptr rfl) ?_
      refine Ya fa145_1 ?_
      refine Yl ts3 ta3 ?_
      refine Ze (Ev_add rfl rfl _ (wrap_id (by omega) (by omega))) ?_
      refine Ze (Ev_nilc_ptr rfl) ?_
      refine Ya fa145_1 ?_
      refine Ys ts3 ?_
      refine Zn hK13 ?_
      refine AC_seq fun _ hK14 => ?_
      refine AC_draw hT follows [0, 1, 2, 3, 4, 5, 6, 7, 8, 9, 10, 11, 12, 13, 14, 15] (by kernel_rfl) ?_
      refine DT_ev rfl (EA_move) rfl ?_
      refine DT_ev rfl (EA_move) rfl ?_
      refine DT_ev rfl (EA_nilc_ptr rfl) rfl ?_
      refine DT_ev rfl (EA_fa_ptr rfl fa145_0 rfl rfl) rfl ?_
      refine DT_ev rfl (EA_load_ptr rfl rfl rfl rfl rfl rfl ts119 ta119 rfl (fun _ => rfl)) rfl ?_
      refine DT_ev rfl (EA_move) rfl ?_
      refine DT_ev rfl (EA_nilc_ptr rfl) rfl ?_
      refine DT_ev rfl (EA_fa_ptr rfl fa145_1 rfl rfl) rfl ?_
      refine DT_ev rfl (EA_load_ptr rfl rfl rfl rfl rfl rfl ts3 ta3 rfl (fun _ => rfl)) rfl ?_
      refine DT_ev rfl (EA_sub rfl rfl _ (wrap_id (by omega) (by omega))) rfl ?_
      refine DT_ev rfl (EA_ix_sl rfl rfl te119 ts139 (by omega) (by assumption)) rfl ?_
      refine DT_ev rfl (EA_fa_rp rfl fa139_1 rfl rfl) rfl ?_
      refine DT_ev rfl (EA_load_rp rfl rfl rfl ts9 ta9 rfl (fun _ => rfl)) rfl ?_
      refine DTi.t [0, 1, 2, 3, 4, 5, 6, 7, 8, 9, 10, 11, 12, 13, 14, 15] (os := [_, _, _]) (by kernel_rfl) rfl ?_
      refine AL_rcc hT 0 3 rfl cl176 (c_variable xs { s4 with i := s4.i + 1 } hl g.x (by show s4.ns.length ≤ 1048577; rw [hm4.2]; omega)) rfl (.cons .d .nil) rfl rfl rfl rfl rfl (fun _ => (.cons .d .nil)) rfl ?_
      rintro ⟨s6, t6⟩ hz6
      refine Ys ts41 ?_
      refine Za ?_
      refine Zn hK14 ?_
      refine AC_ret ?_
      exact retr_ok ((s6, t6, 0)) (by have e := hm4.2; subst e; simp only [primM]; rw [if_neg hn1, if_neg hn2, if_neg hn4, if_neg hn6, if_pos hc5]; simp only [sgAt, hg]; rw [← hz6]) [3, 4] (CExt.refl _) (.cell rfl rfl rfl rfl rfl rfl ts41 ta41 (by simp) (by intro h; cases h) (.tmp rfl rfl .nil)) rfl rfl (BxF_stay rfl rfl rfl rfl rfl (.cons (.agg (.cons .d (.cons .d (.cons .d (.cons .d (.cons (.ref rfl) .nil)))))) .nil) rfl (BxF_cons rfl rfl rfl rfl rfl (VxL_d _) (Nat.le_refl _) BxF_nil)) (Nat.le_of_ble_eq_true rfl) (.cons .d (.cons .d .nil))
     ·have hn7 : ¬ isM xs s 2 ⟨#[]⟩ = true := by rw [← hm4.2, hc5]; decide
      refine Zk hK2 ?_
      refine Zs fun _ hK15 => ?_
      refine Zm ?_
      refine Ze (Ev_nilc_ptr rfl) ?_
      refine Ya fa145_2 ?_
      refine Ys ts4 ?_
      refine Zn hK15 ?_
      refine Zs fun _ hK16 => ?_
      refine Ze (Ev_build (fs := [.one, .one, .one, .one]) (zs := [.c (.int .i64 0), .c (.string ⟨#[]⟩), .c (.int .i64 0), .c (.slice none 0 0)]) tz41 rfl tpl41 .nil) ?_
      refine Ys ts41 ?_
      refine Za ?_
      refine Zn hK16 ?_
      refine AC_ret ?_
      refine fin_of_wk (enterS (ks := []) (g := fun _ => V.any) (ms := [(4, .ptr LT 2 0 []), (5, i64 0)]) (L2 := [some (rBox ⟨145, some (o 0)⟩ 1 xs ({ s4 with bad := true })), some (nBox 9 ({ s4 with bad := true })), some ⟨41, LT, [.d (inj (term0))]⟩]) [some 0, some 1, some 2] rfl rfl (Bx (.cons (.agg (.cons (.rd .d) (.cons (.rd .d) (.cons (.rd .d) (.cons (.rd .d) (.cons (.ref rfl) .nil)))))) .nil) (Bx (VwL_d _) (Bx (.cons (.rd (.agg (.cons .d (.cons .d (.cons .d (.cons (.nil) .nil)))))) .nil) BxTo_nil))) Sl_) ?_
      rintro f L ⟨rfl, rfl⟩
      exact retr_ok (({ s4 with bad := true }, term0, 0)) (by have e := hm4.2; subst e; simp only [primM]; rw [if_neg hn1, if_neg hn2, if_neg hn4, if_neg hn6, if_neg hn7]) [0, 1] (CExt.refl _) (.cell rfl rfl rfl rfl rfl rfl ts41 ta41 (by rfl) (by intro h; cases h) (.tmp rfl rfl .nil)) rfl rfl (BxF_stay rfl rfl rfl rfl rfl (.cons (.agg (.cons .d (.cons .d (.cons .d (.cons .d (.cons (.ref rfl) .nil)))))) .nil) rfl (BxF_cons rfl rfl rfl rfl rfl (VxL_d _) (Nat.le_refl _) BxF_nil)) (Nat.le_of_ble_eq_true rfl) (.cons .d (.cons .d .nil))
set_option maxHeartbeats 8000000 in
set_option maxRecDepth 4000 in
theorem c_termS (xs : List Sg) (s : Rs) (hl : xs.length ≤ 1048576) (hgs : GoodS xs) (hx : ∀ g ∈ xs, g.x.size ≤ 32) (d : Int) (n : Nat) (tm : Int → Rs → Rs × T) (htm0 : d + 1 ≤ 130 → TmC Tryz.prog 139 145 9 xs (d + 1) n tm) (hok9 : d + 1 ≤ 130 → TmOk xs (d + 1) n tm) (most : Int) (hs : Okr xs d s) (hb : s.bad = false) (hd0 : 0 ≤ d) (hd1 : d ≤ 130) (hn : xs.length + 2 ≤ n + 1 + s.i) : RcC Tryz.prog 139 145 9 xs s [i64 most] (termB xs tm most s) (fun t => [.d (inj t)]) := by
 have hsi := hs.hi
 have hde := hs.de hb
 have hd2 := hs.d1
 refine HCallX_of (n := 91) Tryz.func139 rfl rfl (Nat.le_of_ble_eq_true rfl) (Nat.le_of_ble_eq_true rfl) fun C0 o hT => ?_
 refine Zs fun _ hK1 => ?_
 refine AL_alloc zo41 _ rfl rfl ?_
 refine Zn hK1 ?_
 refine Zs fun _ hK2 => ?_
 iterate 2 refine Zm ?_
 refine Ze (Ev_nilc_ptr rfl) ?_
 refine Ya fa145_3 ?_
 refine Yl ts3 ta3 ?_
 refine Ze (Ev_add rfl rfl _ (wrap_id (by omega) (by omega))) ?_
 refine Ze (Ev_nilc_ptr rfl) ?_
 refine Ya fa145_3 ?_
 refine Ys ts3 ?_
 refine Zn hK2 ?_
 refine AC_seq fun _ hK3 => ?_
 refine Zs fun _ hK4 => ?_
 refine Zm ?_
 refine Ze (Ev_nilc_ptr rfl) ?_
 refine Ya fa145_2 ?_
 refine Yl ts4 ta4 ?_
 refine Zm ?_
 refine Zb 22 (fun hg1 => ?_) fun hg1 => ?_
 ·exact absurd (hb.symm.trans hg1) (by decide)
 ·refine Zt ?_
  refine Zm ?_
  refine Zt ?_
  refine Ze (Ev_nilc_ptr rfl) ?_
  refine Zt ?_
  refine Ya fa145_3 ?_
  refine Zt ?_
  refine Yl ts3 ta3 ?_
  refine Zt ?_
  refine Ze (Ev_gtr rfl rfl) ?_
  refine Zp ?_
  refine Zn hK4 ?_
  refine Zc (fun hc2 => ?_) fun hc2 => ?_
  ·have hq : s.bad = true ∨ 130 < s.deep + 1 := .inr (of_decide_eq_true hc2)
   refine Zs fun _ hK5 => ?_
   refine Zm ?_
   refine Ze (Ev_nilc_ptr rfl) ?_
   refine Ya fa145_2 ?_
   refine Ys ts4 ?_
   refine Zn hK5 ?_
   refine Zs fun _ hK6 => ?_
   refine Ze (Ev_build (fs := [.one, .one, .one, .one]) (zs := [.c (.int .i64 0), .c (.string ⟨#[]⟩), .c (.int .i64 0), .c (.slice none 0 0)]) tz41 rfl tpl41 .nil) ?_
   refine Ys ts41 ?_
   refine Zn hK6 ?_
   refine AC_ret ?_
   refine fin_of_wk (enterS (ks := []) (g := fun _ => V.any) (ms := [(4, .ptr LT 2 0 [])]) (L2 := [some (rBox ⟨145, some (o 0)⟩ 1 xs ({ s with bad := true, deep := s.deep + 1 })), some (nBox 9 ({ s with bad := true, deep := s.deep + 1 })), some ⟨41, LT, [.d (inj (term0))]⟩]) [some 0, some 1, some 2] rfl rfl (Bx (.cons (.agg (.cons (.rd .d) (.cons (.rd .d) (.cons (.rd .d) (.cons (.rd .d) (.cons (.ref rfl) .nil)))))) .nil) (Bx (VwL_d _) (Bx (.cons (.rd (.agg (.cons .d (.cons .d (.cons .d (.cons (.nil) .nil)))))) .nil) BxTo_nil))) Sl_) ?_
   rintro f L ⟨rfl, rfl⟩
   exact retr_ok (({ s with bad := true, deep := s.deep + 1 }, term0)) (by simp only [termB]; rw [if_pos hq]) [0, 1] (CExt.refl _) (.cell rfl rfl rfl rfl rfl rfl ts41 ta41 (by rfl) (by intro h; cases h) .nil) rfl rfl (BxF_stay rfl rfl rfl rfl rfl (.cons (.agg (.cons .d (.cons .d (.cons .d (.cons .d (.cons (.ref rfl) .nil)))))) .nil) rfl (BxF_cons rfl rfl rfl rfl rfl (VxL_d _) (Nat.le_refl _) BxF_nil)) (Nat.le_of_ble_eq_true rfl) (.cons .d .nil)
  ·have hd3 : ¬ 130 < s.deep + 1 := of_decide_eq_false hc2
   have hq : ¬ (s.bad = true ∨ 130 < s.deep + 1) := by rintro (h | h); rw [hb] at h; cases h; exact hd3 h
   have htm := htm0 (by omega)
   have hok := hok9 (by omega)
   have hs1 : Okr xs (d + 1) { s with deep := s.deep + 1 } := ⟨hs.hi, hs.hn, by show d + 1 ≤ s.deep + 1; omega, by show s.deep + 1 ≤ 131; omega, fun _ => by show s.deep + 1 = d + 1; omega⟩
   refine Zk hK3 ?_
   refine Zs fun _ hK7 => ?_
   iterate 2 refine Zm ?_
   refine AL_rcc hT 0 3 rfl cl161 (c_primary xs { s with deep := s.deep + 1 } hl hgs (d + 1) n tm htm hok most hs1 hb hn) rfl (.cons .d .nil) rfl rfl rfl rfl rfl (fun _ => (.cons .d (.cons .d .nil))) rfl ?_
   rintro ⟨s1, t1⟩ hz1
   have hp1 := prim_ok hx hok most hs1 hb hn
   rw [← hz1] at hp1
   try simp only at hp1
   have hq1 := hp1.ok
   have hle1 := hp1.le
   try simp only at hle1
   refine Exists.elim (show ∃ M, tailM xs tm most (xs.length + 3) s1 t1.1 t1.2 = M from ⟨_, rfl⟩) fun M hM => ?_
   have hE : termB xs tm most s = ({ M.1 with deep := M.1.deep - 1 }, M.2) := by simp only [termB]; rw [if_neg hq, ← hz1, hM]
   have hT9 := tail_ok hok most (xs.length + 3) s1 t1.1 t1.2 hq1 (fun _ => by omega)
   rw [hM] at hT9
   have hT8 := hT9.1.d0
   have hT7 := hT9.1.d1
   refine Zm ?_
   refine Ze (Ev_extract rfl rfl) ?_
   refine Ze (Ev_extract rfl rfl) ?_
   refine AL_alloc zo41 _ rfl rfl ?_
   refine Ys ts41 ?_
   refine Za ?_
   refine Zn hK7 ?_
   refine AC_seqJ (fun f L => f = FS [] (fun _ => V.any) [(0, .ptr LRD 0 0 []), (4, .ptr LT 2 0 []), (5, .ptr LT 3 0 [])] ∧ L = [some (rBox ⟨145, some (o 0)⟩ 1 xs M.1), some (nBox 9 M.1), some ⟨41, LT, [.d zT]⟩, some ⟨41, LT, [.d (inj M.2)]⟩]) ?_ ?_
   ·refine AC_block ?_
    refine AC_loopS [] (Nat × Rs × T × Int) (fun q => [(0, .ptr LRD 0 0 []), (1, i64 most), (4, .ptr LT 2 0 []), (5, .ptr LT 3 0 []), (6, i64 q.2.2.2)]) (fun q => [some (rBox ⟨145, some (o 0)⟩ 1 xs q.2.1), some (nBox 9 q.2.1), some ⟨41, LT, [.d zT]⟩, some ⟨41, LT, [.d (inj q.2.2.1)]⟩]) (fun q => q.1) (fun q => tailM xs tm most q.1 q.2.1 q.2.2.1 q.2.2.2 = M ∧ Okr xs (d + 1) q.2.1 ∧ (q.2.1.bad = false → xs.length + 2 ≤ q.1 + q.2.1.i ∧ xs.length + 2 ≤ n + 1 + q.2.1.i)) ((xs.length + 3, s1, t1.1, t1.2)) ?_ ?_ ?_
    ·exact enterS [some 3, some 4, some 2, some 5] rfl rfl (Bx (.cons (.agg (.cons (.rd .d) (.cons (.rd .d) (.cons (.rd .d) (.cons (.rd .d) (.cons (.ref rfl) .nil)))))) .nil) (Bx (VwL_d _) (Bx (.cons (.rd .d) .nil) (Bx (.cons (.rd .d) .nil) BxTo_nil)))) Sl_
    ·exact ⟨hM, hq1, fun e => ⟨by show xs.length + 2 ≤ xs.length + 3 + s1.i; omega, by show xs.length + 2 ≤ n + 1 + s1.i; omega⟩⟩
    rintro ⟨m, s0, t0, p0⟩ ⟨hI, hok0, hf0⟩
    simp only at hI hok0 hf0
    refine AC_seq fun _ hK9 => ?_
    refine Zs fun _ hK10 => ?_
    refine Zm ?_
    refine Ze (Ev_nilc_ptr rfl) ?_
    refine Ya fa145_2 ?_
    refine Yl ts4 ta4 ?_
    refine Ze (Ev_not rfl) ?_
    refine Zn hK10 ?_
    refine Zc (fun hc3 => ?_) fun hc3 => ?_
    ·have hb0 : s0.bad = false := by simpa using hc3
     have hfb := hf0 hb0
     have hi9 := hok0.hi
     refine Exists.elim (show ∃ m1, m = m1 + 1 from ⟨m - 1, by omega⟩) fun m1 hm1 => ?_
     subst hm1
     rw [tailM, if_neg (show ¬ s0.bad = true by rw [hb0]; decide)] at hI
     refine Zk hK9 ?_
     refine AC_block ?_
     refine Zs fun _ hK11 => ?_
     refine Zm ?_
     refine AL_rcc hT 0 4 rfl cl162 (c_infixR xs s0 hl hi9) rfl .nil rfl rfl rfl rfl rfl (fun _ => (.cons .d (.cons .d .nil))) rfl ?_
     rintro ⟨s2, t2⟩ hz2
     have e2 : s2 = s0 := congrArg Prod.fst hz2
     have e3 : t2 = nextM xs s0 := congrArg Prod.snd hz2
     have e4 : s2.i = s0.i := by rw [e2]
     rw [← e3] at hI
     try simp only at hI
     refine Zm ?_
     refine Ze (Ev_extract rfl rfl) ?_
     refine Ze (Ev_extract rfl rfl) ?_
     refine AL_alloc zo161 _ rfl rfl ?_
     refine Ys ts161 ?_
     refine Za ?_
     refine Zn hK11 ?_
     refine AC_seq fun _ hK12 => ?_
     refine Zs fun _ hK13 => ?_
     refine Zm ?_
     refine Ze (Ev_not rfl) ?_
     refine Zm ?_
     refine Zb 51 (fun hg4 => ?_) fun hg4 => ?_
     ·have hx9 : t2.2 = false ∨ most < t2.1.pr ∨ t2.1.l < p0 := .inl (by simpa using hg4)
      rw [if_pos hx9] at hI
      iterate 4 refine Zg ?_
      refine Zp ?_
      refine Zm ?_
      iterate 4 refine Zg ?_
      refine Zp ?_
      refine Zn hK13 ?_
      refine AC_cond_t rfl ?_
      refine AC_exit ?_
      rw [← e2] at hI
      subst hI
      exact fin_wk (enterS (ks := []) (g := fun _ => V.any) [some 4, some 5, some 2, some 3] rfl rfl (Bx (.cons (.agg (.cons (.rd .d) (.cons (.rd .d) (.cons (.rd .d) (.cons (.rd .d) (.cons (.ref rfl) .nil)))))) .nil) (Bx (VwL_d _) (Bx (.cons (.rd .d) .nil) (Bx (.cons (.rd .d) .nil) BxTo_nil)))) Sl_)
     ·have ho2 : t2.2 = true := by simpa using hg4
      refine Zt ?_
      refine Ya fa161_1 ?_
      refine Zt ?_
      refine Yl ts3 ta3 ?_
      refine Zt ?_
      refine Zm ?_
      refine Zt ?_
      refine Ze (Ev_gtr rfl rfl) ?_
      refine Zp ?_
      refine Zm ?_
      refine Zb 57 (fun hg5 => ?_) fun hg5 => ?_
      ·have hx9 : t2.2 = false ∨ most < t2.1.pr ∨ t2.1.l < p0 := .inr (.inl (of_decide_eq_true hg5))
       rw [if_pos hx9] at hI
       iterate 4 refine Zg ?_
       refine Zp ?_
       refine Zn hK13 ?_
       refine AC_cond_t rfl ?_
       refine AC_exit ?_
       rw [← e2] at hI
       subst hI
       exact fin_wk (enterS (ks := []) (g := fun _ => V.any) [some 4, some 5, some 2, some 3] rfl rfl (Bx (.cons (.agg (.cons (.rd .d) (.cons (.rd .d) (.cons (.rd .d) (.cons (.rd .d) (.cons (.ref rfl) .nil)))))) .nil) (Bx (VwL_d _) (Bx (.cons (.rd .d) .nil) (Bx (.cons (.rd .d) .nil) BxTo_nil)))) Sl_)
      ·refine Zt ?_
       refine Ya fa161_2 ?_
       refine Zt ?_
       refine Yl ts3 ta3 ?_
       refine Zt ?_
       refine Zm ?_
       refine Zt ?_
       refine Ze (Ev_lss rfl rfl) ?_
       refine Zp ?_
       refine Zn hK13 ?_
       refine Zc (fun hc6 => ?_) fun hc6 => ?_
       ·have hx9 : t2.2 = false ∨ most < t2.1.pr ∨ t2.1.l < p0 := .inr (.inr (of_decide_eq_true hc6))
        rw [if_pos hx9] at hI
        refine AC_exit ?_
        rw [← e2] at hI
        subst hI
        exact fin_wk (enterS (ks := []) (g := fun _ => V.any) [some 4, some 5, some 2, some 3] rfl rfl (Bx (.cons (.agg (.cons (.rd .d) (.cons (.rd .d) (.cons (.rd .d) (.cons (.rd .d) (.cons (.ref rfl) .nil)))))) .nil) (Bx (VwL_d _) (Bx (.cons (.rd .d) .nil) (Bx (.cons (.rd .d) .nil) BxTo_nil)))) Sl_)
       ·have hx9 : ¬ (t2.2 = false ∨ most < t2.1.pr ∨ t2.1.l < p0) := by rintro (h | h | h); rw [ho2] at h; cases h; exact of_decide_eq_false hg5 h; exact of_decide_eq_false hc6 h
        rw [if_neg hx9, ← e2] at hI
        have hl2 := next_lt (xs := xs) (s := s0) (o := t2.1) (by rw [← e3]; exact Prod.ext rfl ho2)
        have hok2 : Okr xs (d + 1) { s2 with i := s2.i + 1 } := by rw [e2]; exact hok0.adv 1 (by omega)
        have hb2 : s2.bad = false := by rw [e2]; exact hb0
        have hn2 : xs.length + 2 ≤ n + (s2.i + 1) := by omega
        have hp3 := hok t2.1.r { s2 with i := s2.i + 1 } hok2 hb2 hn2
        refine Zk hK12 ?_
        refine AC_seq fun _ hK14 => ?_
        refine AC_wk (Wk_to [some 4, some 5, some 2, some 3, some 6] [(0, .ptr LRD 0 0 []), (1, i64 most), (4, .ptr LT 2 0 []), (5, .ptr LT 3 0 []), (6, i64 p0), (7, .ptr (Lay.st [.one, .one, .one, .one]) 4 0 [])] [some (rBox ⟨145, some (o 0)⟩ 1 xs s2), some (nBox 9 s2), some ⟨41, LT, [.d zT]⟩, some ⟨41, LT, [.d (inj t0)]⟩, some ⟨161, (Lay.st [.one, .one, .one, .one]), [.d (injO t2.1)]⟩] rfl rfl (Bx (.cons (.agg (.cons (.rd .d) (.cons (.rd .d) (.cons (.rd .d) (.cons (.rd .d) (.cons (.ref rfl) .nil)))))) .nil) (Bx (VwL_d _) (Bx (.cons (.rd .d) .nil) (Bx (.cons (.rd .d) .nil) (Bx (.cons (.rd .d) .nil) BxTo_nil))))) Sl_ ?_)
        refine AC_region ?_
        iterate 2 refine Zm ?_
        refine Ze (Ev_nilc_ptr rfl) ?_
        refine Ya fa145_1 ?_
        refine Yl ts3 ta3 ?_
        refine Ze (Ev_add rfl rfl _ (wrap_id (by omega) (by omega))) ?_
        refine Ze (Ev_nilc_ptr rfl) ?_
        refine Ya fa145_1 ?_
        refine Ys ts3 ?_
        refine Zn hK14 ?_
        refine Zs fun _ hK15 => ?_
        refine Zm ?_
        refine Ya fa161_3 ?_
        refine Yl ts3 ta3 ?_
        refine AL_rcc hT 0 5 rfl cl139 (htm t2.1.r { s2 with i := s2.i + 1 } hok2 hb2 hn2) rfl (.cons .d .nil) rfl rfl rfl rfl rfl (fun _ => (.cons .d .nil)) rfl ?_
        rintro ⟨s3, t3⟩ hz3
        rw [← hz3] at hI hp3
        try simp only at hI
        try simp only at hp3
        have hq3 := hp3.ok
        have hi3 := hq3.hi
        have hle3 := hp3.le
        have hlt3 := hp3.lt
        try simp only at hle3
        try simp only at hlt3
        refine AL_alloc zo41 _ rfl rfl ?_
        refine Ys ts41 ?_
        refine Zn hK15 ?_
        refine Zs fun _ hK16 => ?_
        refine Ya fa161_0 ?_
        refine Yl ts9 ta9 ?_
        refine YL ts41 ta41 ?_
        refine YL ts41 ta41 ?_
        refine AL_fcall0 hT rfl cl121 (c_two t2.1.x t0 t3) rfl rfl ?_
        refine Ys ts41 ?_
        refine Zn hK16 ?_
        refine AC_region ?_
        refine Ya fa161_1 ?_
        refine Yl ts3 ta3 ?_
        refine Za ?_
        refine AL_nil ?_
        refine closeS (m1, s3, .mk 4 t2.1.x 0 [t0, t3], t2.1.pr) [some 5, some 6, some 2, some 3] rfl rfl (Nat.lt_succ_self _) ⟨hI, hq3, fun h => ⟨by have b := hlt3 h; show xs.length + 2 ≤ m1 + s3.i; omega, by have b := hlt3 h; show xs.length + 2 ≤ n + 1 + s3.i; omega⟩⟩ (Bx (.cons (.agg (.cons (.rd .d) (.cons (.rd .d) (.cons (.rd .d) (.cons (.rd .d) (.cons (.ref rfl) .nil)))))) .nil) (Bx (VwL_d _) (Bx (.cons (.rd .d) .nil) (Bx (.cons (.rd .d) .nil) BxTo_nil)))) Sl_
    ·have hb0 : s0.bad = true := by simpa using hc3
     have hE2 : M = (s0, t0) := by rw [← hI]; cases m with | zero => rfl | succ m => rw [tailM, if_pos hb0]
     clear hI
     have hI := hE2.symm
     refine AC_exit ?_
     subst hI
     exact fin_wk (enterS (ks := []) (g := fun _ => V.any) [some 0, some 1, some 2, some 3] rfl rfl (Bx (.cons (.agg (.cons (.rd .d) (.cons (.rd .d) (.cons (.rd .d) (.cons (.rd .d) (.cons (.ref rfl) .nil)))))) .nil) (Bx (VwL_d _) (Bx (.cons (.rd .d) .nil) (Bx (.cons (.rd .d) .nil) BxTo_nil)))) Sl_)
   ·rintro f L ⟨rfl, rfl⟩
    refine Zs fun _ hK17 => ?_
    iterate 2 refine Zm ?_
    refine Ze (Ev_nilc_ptr rfl) ?_
    refine Ya fa145_3 ?_
    refine Yl ts3 ta3 ?_
    refine Ze (Ev_sub rfl rfl _ (wrap_id (by omega) (by omega))) ?_
    refine Ze (Ev_nilc_ptr rfl) ?_
    refine Ya fa145_3 ?_
    refine Ys ts3 ?_
    refine Zn hK17 ?_
    refine Zs fun _ hK18 => ?_
    refine YL ts41 ta41 ?_
    refine Ys ts41 ?_
    refine Zn hK18 ?_
    refine AC_ret ?_
    exact retr_ok (({ M.1 with deep := M.1.deep - 1 }, M.2)) (hE.symm) [0, 1] (CExt.refl _) (.cell rfl rfl rfl rfl rfl rfl ts41 ta41 (by simp) (by intro h; cases h) .nil) rfl rfl (BxF_stay rfl rfl rfl rfl rfl (.cons (.agg (.cons .d (.cons .d (.cons .d (.cons .d (.cons (.ref rfl) .nil)))))) .nil) rfl (BxF_cons rfl rfl rfl rfl rfl (VxL_d _) (Nat.le_refl _) BxF_nil)) (Nat.le_of_ble_eq_true rfl) (.cons .d .nil)
theorem c_termA (xs : List Sg) (hl : xs.length ≤ 1048576) (hgs : GoodS xs) (hx : ∀ g ∈ xs, g.x.size ≤ 32) : ∀ (n : Nat) (d : Int), 0 ≤ d → d ≤ 130 → TmC Tryz.prog 139 145 9 xs d n (termM xs n)
 | 0, d, h0, h1 => fun most s hs hb hn => by have := hs.hi; omega
 | n + 1, d, h0, h1 => fun most s hs hb hn => c_termS xs s hl hgs hx d n (termM xs n) (fun h => c_termA xs hl hgs hx n (d + 1) (by omega) h) (fun h => term_ok hx n (d + 1) (by omega) h) most hs hb h0 h1 hn
end Go.Proofs.YtjgliechbnommaaGreatDoor
set_option linter.unusedVariables false
set_option linter.unusedSimpArgs false
namespace Go.Proofs.YtjgliechbnommaaGreatDoor
open Go.Eng
theorem tz145 : tyZero Tryz.prog 145 = some (some (.agg #[.slice none 0 0, .int .i64 0, .bool false, .int .i64 0, .slice none 0 0])) := by kernel_rfl
theorem tz27 : tyZero Tryz.prog 27 = some (some (.agg #[.slice none 0 0, .slice none 0 0])) := by kernel_rfl
theorem cl110 : Callable Tryz.prog 110 := Zq Tryz.func110
theorem cl111 : Callable Tryz.prog 111 := Zq Tryz.func111
theorem cl122 : Callable Tryz.prog 122 := Zq Tryz.func122
theorem cl136 : Callable Tryz.prog 136 := Zq Tryz.func136
theorem cl137 : Callable Tryz.prog 137 := Zq Tryz.func137
theorem cl144 : Callable Tryz.prog 144 := Zq Tryz.func144
theorem tb139 : tyBytes Tryz.prog 139 = some 48 := by kernel_rfl
theorem tpl145 : tyPlaces Tryz.prog 145 = some (layPlaces 0 [.one, .one, .one, .one, .one]) := by kernel_rfl
theorem tpl27 : tyPlaces Tryz.prog 27 = some (layPlaces 0 [.one, .one]) := by kernel_rfl
theorem zo27 : ZeroOf Tryz.prog 27 (Lay.st [.one, .one]) (.d (.agg [.one, .one] [.c (.slice none 0 0), .c (.slice none 0 0)])) := ⟨_, tz27, rfl, fun _ _ _ => VC_cells rfl⟩
set_option maxHeartbeats 4000000 in
set_option maxRecDepth 4000 in
theorem c_signsOf (t : ByteArray) (hs : t.size ≤ 3000) : PCall Tryz.prog 110 [.c (.string t)] (· = [.sl LSG (injGs (signsM t)), .c (.bool true)]) := by
 refine PCall_of (n := 62) Tryz.func110 rfl rfl (Nat.le_of_ble_eq_true rfl) fun C hdm hT0 => ?_
 have hT := hT0
 refine Zs fun _ hK1 => ?_
 iterate 2 refine Za ?_
 refine Zn hK1 ?_
 refine Zs fun _ hK2 => ?_
 refine AL_bV (Lay.st [.one, .one, .one, .one, .one]) rfl te119 ts139 tz139 rfl rfl (by decide) (by decide) (by rfl) _ rfl rfl ?_
 refine Za ?_
 refine Zn hK2 ?_
 refine AC_seq fun _ hK3 => ?_
 refine Zs fun _ hK4 => ?_
 refine Zm ?_
 refine Ze (Ev_len_str tstr9 rfl) ?_
 refine Ze (Ev_gtr rfl rfl) ?_
 refine Zn hK4 ?_
 refine Zc (fun hc1 => ?_) fun hc1 => ?_
 ·exact absurd (of_decide_eq_true hc1) (by omega)
 ·refine Zk hK3 ?_
  refine Zs fun _ hK5 => ?_
  refine Za ?_
  refine Zn hK5 ?_
  refine AC_seq fun _ hK6 => ?_
  refine AC_block ?_
  refine AC_loopS [0] (Nat × Nat × List Sg) (fun q => [(4, .ref LSG 0 0 q.2.2.length), (5, i64 ((q.2.1 : Nat) : Int))]) (fun q => [some ⟨139, LSG, (injGs q.2.2).map V.d⟩]) (fun q => q.1) (fun q => signsM t = q.2.2 ++ signsL t q.1 q.2.1 ∧ q.2.1 ≤ t.size ∧ t.size + 1 ≤ q.1 + q.2.1 ∧ q.2.2.length + q.1 ≤ t.size + 1) ((t.size + 1, 0, [])) ?_ ?_ ?_
  ·exact enterS [some 0] rfl rfl (Bx .nil BxTo_nil) Sl_
  ·exact ⟨rfl, Nat.zero_le _, Nat.le_refl _, by show 0 + (t.size + 1) ≤ t.size + 1; omega⟩
  rintro ⟨m, j, xs⟩ ⟨hI, hj0, hj1, hj2⟩
  simp only at hI hj0 hj1 hj2
  refine AC_seq fun _ hK7 => ?_
  refine Zs fun _ hK8 => ?_
  iterate 2 refine Zm ?_
  refine Ze (Ev_len_str tstr9 rfl) ?_
  refine Ze (Ev_lss rfl rfl) ?_
  refine Zn hK8 ?_
  refine Zc (fun hc2 => ?_) fun hc2 => ?_
  ·have hjl : j < t.size := Int.ofNat_lt.1 (of_decide_eq_true hc2)
   have hjbu : j < (bts t).length := by rw [bts_len]; omega
   refine Exists.elim (show ∃ v, (bts t)[j]? = some v from ⟨_, List.getElem?_eq_getElem hjbu⟩) fun u hu => ?_
   have hu2 := bts_get hu
   have hub := UInt8.toNat_lt u
   have hub := byteI_get hu
   refine Exists.elim (show ∃ m1, m = m1 + 1 from ⟨m - 1, by omega⟩) fun m1 hm1 => ?_
   subst hm1
   rw [signsL, if_neg (show ¬ t.size ≤ j by omega), hub] at hI
   refine Zk hK7 ?_
   refine AC_block ?_
   refine AC_seq fun _ hK9 => ?_
   refine Zs fun _ hK10 => ?_
   iterate 2 refine Zm ?_
   refine Ze (Ev_ix_str tstr9 rfl rfl (by omega) (by assumption)) ?_
   refine AL_fcall0 hT rfl cl135 (c_blank (u.toNat : Int)) rfl rfl ?_
   refine Zn hK10 ?_
   refine Zc (fun hc3 => ?_) fun hc3 => ?_
   ·rw [if_pos hc3] at hI
    refine Zs fun _ hK11 => ?_
    refine Zm ?_
    refine Ze (Ev_add rfl rfl _ (wrap_id (by omega) (by (simp; omega)))) ?_
    refine Za ?_
    refine Zn hK11 ?_
    refine AC_exit ?_
    refine closeS (m1, j + 1, xs) [some 0] rfl rfl (Nat.lt_succ_self _) ⟨hI, hjl, by show t.size + 1 ≤ m1 + (j + 1); omega, by show xs.length + m1 ≤ t.size + 1; omega⟩ (Bx (VwL_d _) BxTo_nil) Sl_
   ·rw [if_neg (by rw [hc3]; decide)] at hI
    refine Zk hK9 ?_
    refine AC_seq fun _ hK12 => ?_
    refine Zs fun _ hK13 => ?_
    iterate 2 refine Zm ?_
    refine Ze (Ev_ix_str tstr9 rfl rfl (by omega) (by assumption)) ?_
    refine Ze (Ev_eql rfl rfl) ?_
    refine Zn hK13 ?_
    refine Zc (fun hc4 => ?_) fun hc4 => ?_
    ·have h37 : (u.toNat : Int) = 37 := of_decide_eq_true hc4
     rw [if_pos h37] at hI
     have hr1 := runL_pos (p := (fun v => !decide (v = 10))) hu (by simp [h37])
     refine AC_seq fun _ hK14 => ?_
     refine AC_block ?_
     refine AC_loopS [0, 4] (Nat) (fun k => [(5, i64 ((k : Nat) : Int))]) (fun _ => [some ⟨139, LSG, (injGs xs).map V.d⟩]) (fun k => t.size - k) (fun k => j ≤ k ∧ k ≤ t.size ∧ j + runL (fun v => !decide (v = 10)) ((bts t).drop j) = k + runL (fun v => !decide (v = 10)) ((bts t).drop k)) (j) ?_ ?_ ?_
     ·exact enterS [some 0] rfl rfl (Bx (VwL_d _) BxTo_nil) Sl_
     ·exact ⟨Nat.le_refl _, by omega, rfl⟩
     rintro k ⟨hk0, hk1, hJ⟩
     refine AC_seq fun _ hK15 => ?_
     refine Zs fun _ hK16 => ?_
     iterate 2 refine Zm ?_
     refine Ze (Ev_len_str tstr9 rfl) ?_
     refine Ze (Ev_lss rfl rfl) ?_
     refine Zm ?_
     refine Zb 31 (fun hg5 => ?_) fun hg5 => ?_
     ·have hkl : k < t.size := by have := of_decide_eq_true hg5; omega
      have hjbv : k < (bts t).length := by rw [bts_len]; omega
      refine Exists.elim (show ∃ v, (bts t)[k]? = some v from ⟨_, List.getElem?_eq_getElem hjbv⟩) fun v hv => ?_
      have hv2 := bts_get hv
      have hvb := UInt8.toNat_lt v
      have hdr := drop_get hv
      refine Zt ?_
      refine Zm ?_
      refine Zt ?_
      refine Zm ?_
      refine Zt ?_
      refine Ze (Ev_ix_str tstr9 rfl rfl (by omega) (by assumption)) ?_
      refine Zt ?_
      refine Ze (Ev_neq rfl rfl) ?_
      refine Zp ?_
      refine Zn hK16 ?_
      refine Zc (fun hc6 => ?_) fun hc6 => ?_
      ·refine Zk hK15 ?_
       refine AC_block ?_
       refine AC_region ?_
       refine Zm ?_
       refine Ze (Ev_add rfl rfl _ (wrap_id (by omega) (by omega))) ?_
       refine Za ?_
       refine AL_nil ?_
       refine closeS (k + 1) [some 0] rfl rfl (by show t.size - (k + 1) < t.size - k; omega) ⟨by omega, by omega, by rw [hJ, hdr]; simp_all [runL]; omega⟩ (Bx (VwL_d _) BxTo_nil) Sl_
      ·have hJ2 : j + runL (fun v => !decide (v = 10)) ((bts t).drop j) = k := by rw [hJ, hdr]; simp_all [runL]
       refine Zx hK14 ?_
       refine AC_exit ?_
       rw [hJ2] at hI
       refine closeS (m1, k, xs) [some 0] rfl rfl (Nat.lt_succ_self _) ⟨hI, hk1, by show t.size + 1 ≤ m1 + k; omega, by show xs.length + m1 ≤ t.size + 1; omega⟩ (Bx (VwL_d _) BxTo_nil) Sl_
     ·have hge : t.size ≤ k := by have := of_decide_eq_false hg5; omega
      have hJ2 : j + runL (fun v => !decide (v = 10)) ((bts t).drop j) = k := by rw [hJ, List.drop_eq_nil_of_le (by simp; omega)]; rfl
      iterate 4 refine Zg ?_
      refine Zp ?_
      refine Zn hK16 ?_
      refine AC_cond_f rfl ?_
      refine Zx hK14 ?_
      refine AC_exit ?_
      rw [hJ2] at hI
      refine closeS (m1, k, xs) [some 0] rfl rfl (Nat.lt_succ_self _) ⟨hI, hk1, by show t.size + 1 ≤ m1 + k; omega, by show xs.length + m1 ≤ t.size + 1; omega⟩ (Bx (VwL_d _) BxTo_nil) Sl_
    ·have h37 : ¬ (u.toNat : Int) = 37 := of_decide_eq_false hc4
     rw [if_neg h37] at hI
     refine Zk hK12 ?_
     refine Zs fun _ hK17 => ?_
     iterate 2 refine Zm ?_
     refine AL_fcall0 hT rfl cl136 (c_sign t j u (by omega) hu) rfl rfl ?_
     refine Zm ?_
     refine Ze (Ev_extract rfl rfl) ?_
     refine Ze (Ev_extract rfl rfl) ?_
     refine AL_alloc zo139 _ rfl rfl ?_
     refine Ys ts139 ?_
     refine Za ?_
     refine Zn hK17 ?_
     refine Zs fun _ hK18 => ?_
     iterate 2 refine Zm ?_
     refine Ze (Ev_len_str tstr9 rfl) ?_
     refine Ze (Ev_lss rfl rfl) ?_
     refine Zm ?_
     refine Zb 49 (fun hg7 => ?_) fun hg7 => ?_
     ·have hel : (signM t j).2 < t.size := by have := of_decide_eq_true hg7; omega
      have hjz : (signM t j).2 < (bts t).length := by rw [bts_len]; omega
      refine Exists.elim (show ∃ v, (bts t)[(signM t j).2]? = some v from ⟨_, List.getElem?_eq_getElem hjz⟩) fun z hz => ?_
      have hz2 := bts_get hz
      have hzb := UInt8.toNat_lt z
      have hzb := byteI_get hz
      refine Exists.elim (show ∃ b : Bool, b = decide ((z.toNat : Int) = 40) from ⟨_, rfl⟩) fun bq hbq => ?_
      have hq := signM_ok hjl
      have hB : (decide ((signM t j).2 < t.size) && decide (byteI t (signM t j).2 = 40)) = bq := by rw [hbq, hzb]; simp [hel]
      have hI3 : signsM t = xs ++ ({ (signM t j).1 with n := bq } :: signsL t m1 (signM t j).2) := by rw [hI, ← hB]
      refine Zt ?_
      refine Zm ?_
      refine Zt ?_
      refine Zm ?_
      refine Zt ?_
      refine Ze (Ev_ix_str tstr9 rfl rfl (by omega) (by assumption)) ?_
      refine Zt ?_
      refine Ze (Ev_eql rfl rfl) ?_
      refine Zp ?_
      refine Ya fa139_4 ?_
      refine Ys ts4 ?_
      refine Zn hK18 ?_
      refine AC_seq fun _ hK19 => ?_
      refine AC_wk (Wk_to [some 0, some 1] [(0, .d (.c (.string t))), (4, .ref LSG 0 0 xs.length), (6, .ptr LSG 1 0 []), (7, i64 (((signM t j).2 : Nat) : Int))] [some ⟨139, LSG, (injGs xs).map V.d⟩, some ⟨139, LSG, [.d (injG { (signM t j).1 with n := bq })]⟩] rfl rfl (Bx (VwL_d _) (BxTo_some rfl rfl rfl rfl (.cons (.rd (.agg (.cons .d (.cons .d (.cons .d (.cons .d (.cons (by rw [hbq]; exact .d) .nil))))))) .nil) BxTo_nil)) Sl_ ?_)
      refine AC_region ?_
      refine Zm ?_
      refine YL ts139 ta139 ?_
      refine AL_bD (Lay.st [.one, .one, .one, .one, .one]) rfl te119 ts139 tz139 rfl rfl (by decide) (by decide) (by rfl) rfl ?_
      refine AL_append rfl rfl rfl te119 ts139 tz139 rfl tb139 (by decide) (by decide) rfl (by (simp; done)) (Src_sl rfl) (by simp only [lim]; (simp; omega)) _ rfl rfl ?_
      refine Za ?_
      refine Zn hK19 ?_
      refine AC_region ?_
      refine Zm ?_
      refine Za ?_
      refine AL_nil ?_
      refine closeS (m1, (signM t j).2, xs ++ [{ (signM t j).1 with n := bq }]) [some 2] rfl rfl (Nat.lt_succ_self _) ⟨by show signsM t = (xs ++ [_]) ++ signsL t m1 (signM t j).2; rw [hI3, List.append_assoc]; rfl, hq.le, by show t.size + 1 ≤ m1 + (signM t j).2; have := hq.lt; omega, by show (xs ++ [_]).length + m1 ≤ t.size + 1; simp; omega⟩ (BxTo_some rfl rfl rfl rfl (VwL_app (by simp [injGs])) BxTo_nil) Sl_
     ·have hel : ¬ (signM t j).2 < t.size := by have := of_decide_eq_false hg7; omega
      refine Exists.elim (show ∃ b : Bool, b = false from ⟨_, rfl⟩) fun bq hbq => ?_
      have hq := signM_ok hjl
      have hB : (decide ((signM t j).2 < t.size) && decide (byteI t (signM t j).2 = 40)) = bq := by rw [hbq]; simp [hel]
      have hI3 : signsM t = xs ++ ({ (signM t j).1 with n := bq } :: signsL t m1 (signM t j).2) := by rw [hI, ← hB]
      iterate 4 refine Zg ?_
      refine Zp ?_
      refine Ya fa139_4 ?_
      refine Ys ts4 ?_
      refine Zn hK18 ?_
      refine AC_seq fun _ hK20 => ?_
      refine AC_wk (Wk_to [some 0, some 1] [(0, .d (.c (.string t))), (4, .ref LSG 0 0 xs.length), (6, .ptr LSG 1 0 []), (7, i64 (((signM t j).2 : Nat) : Int))] [some ⟨139, LSG, (injGs xs).map V.d⟩, some ⟨139, LSG, [.d (injG { (signM t j).1 with n := bq })]⟩] rfl rfl (Bx (VwL_d _) (BxTo_some rfl rfl rfl rfl (.cons (.rd (.agg (.cons .d (.cons .d (.cons .d (.cons .d (.cons (by rw [hbq]; exact .d) .nil))))))) .nil) BxTo_nil)) Sl_ ?_)
      refine AC_region ?_
      refine Zm ?_
      refine YL ts139 ta139 ?_
      refine AL_bD (Lay.st [.one, .one, .one, .one, .one]) rfl te119 ts139 tz139 rfl rfl (by decide) (by decide) (by rfl) rfl ?_
      refine AL_append rfl rfl rfl te119 ts139 tz139 rfl tb139 (by decide) (by decide) rfl (by (simp; done)) (Src_sl rfl) (by simp only [lim]; (simp; omega)) _ rfl rfl ?_
      refine Za ?_
      refine Zn hK20 ?_
      refine AC_region ?_
      refine Zm ?_
      refine Za ?_
      refine AL_nil ?_
      refine closeS (m1, (signM t j).2, xs ++ [{ (signM t j).1 with n := bq }]) [some 2] rfl rfl (Nat.lt_succ_self _) ⟨by show signsM t = (xs ++ [_]) ++ signsL t m1 (signM t j).2; rw [hI3, List.append_assoc]; rfl, hq.le, by show t.size + 1 ≤ m1 + (signM t j).2; have := hq.lt; omega, by show (xs ++ [_]).length + m1 ≤ t.size + 1; simp; omega⟩ (BxTo_some rfl rfl rfl rfl (VwL_app (by simp [injGs])) BxTo_nil) Sl_
  ·have hge : t.size ≤ j := Nat.le_of_not_lt fun h => of_decide_eq_false hc2 (Int.ofNat_lt.2 h)
   have hI2 : signsM t = xs := by rw [hI]; cases m with | zero => simp [signsL] | succ m => rw [signsL, if_pos hge, List.append_nil]
   refine Zx hK6 ?_
   refine Zs fun _ hK21 => ?_
   refine Zm ?_
   iterate 2 refine Za ?_
   refine Zn hK21 ?_
   refine AC_ret ?_
   exact ret_ok hdm (.tmp rfl rfl (.tmp rfl rfl .nil)) (.cons (.ref trivial rfl rfl (by simp) (ReadsL_d _)) (.cons .d .nil)) (by rw [hI2])
set_option maxHeartbeats 1000000 in
set_option maxRecDepth 4000 in
theorem c_behind (xs : List Sg) (hl : xs.length ≤ 1048576) : PCall Tryz.prog 137 [.sl LSG (injGs xs), .c (.int .i64 0)] (· = [.c (.int .i64 ((behindL xs 0 : Nat) : Int))]) := by
 refine PCall_of (n := 23) Tryz.func137 rfl rfl (Nat.le_of_ble_eq_true rfl) fun C hdm hT0 => ?_
 have hT := hT0
 refine Zs fun _ hK1 => ?_
 refine Za ?_
 refine Zn hK1 ?_
 refine AC_seq fun _ hK2 => ?_
 refine Zs fun _ hK3 => ?_
 refine Zm ?_
 refine Ze (Ev_lss rfl rfl) ?_
 refine Zn hK3 ?_
 refine Zc (fun hc1 => ?_) fun hc1 => ?_
 ·exact absurd (of_decide_eq_true hc1) (by decide)
 ·refine Zk hK2 ?_
  refine AC_seq fun _ hK4 => ?_
  refine AC_block ?_
  refine AC_loopS [0] (Nat) (fun j => [(1, i64 ((j : Nat) : Int))]) (fun _ => []) (fun j => xs.length - j) (fun j => j ≤ xs.length ∧ behindL xs 0 = behindL (xs.drop j) j) (0) ?_ ?_ ?_
  ·exact enterS [] rfl rfl BxTo_nil Sl_
  ·exact ⟨Nat.zero_le _, rfl⟩
  rintro j ⟨hj0, hI⟩
  refine AC_seq fun _ hK5 => ?_
  refine Zs fun _ hK6 => ?_
  iterate 2 refine Zm ?_
  refine AL_lim (x := (Operand.tmp 8)) rfl fun hl1 => ?_
  refine Ze (Ev_len_sl te119 rfl) ?_
  refine Ze (Ev_lss rfl rfl) ?_
  refine Zn hK6 ?_
  refine Zc (fun hc2 => ?_) fun hc2 => ?_
  ·simp only [injGs_length] at hc2
   have hlt : j < xs.length := Int.ofNat_lt.1 (of_decide_eq_true hc2)
   refine Exists.elim (show ∃ v, xs[j]? = some v from ⟨_, List.getElem?_eq_getElem hlt⟩) fun g hg => ?_
   have hdr := drop_get hg
   have hg3 : (injGs xs)[((((j : Nat) : Int) + 1) - 1).toNat]? = some (injG g) := by rw [show ((((j : Nat) : Int) + 1) - 1).toNat = j by omega]; simpa using injGs_get hg
   refine Zk hK5 ?_
   refine AC_block ?_
   refine Zs fun _ hK7 => ?_
   refine Zm ?_
   refine Ze (Ev_add rfl rfl _ (wrap_id (by omega) (by omega))) ?_
   refine Za ?_
   refine Zn hK7 ?_
   refine Zs fun _ hK8 => ?_
   iterate 2 refine Zm ?_
   refine Ze (Ev_sub rfl rfl _ (wrap_id (by omega) (by omega))) ?_
   refine Yi te119 ts139 ?_
   refine Yr fa139_0 ?_
   refine Yp ts3 ta3 ?_
   refine Ze (Ev_eql rfl rfl) ?_
   refine Zn hK8 ?_
   refine Zc (fun hc3 => ?_) fun hc3 => ?_
   ·have hk : g.k = 5 := of_decide_eq_true hc3
    have hI2 : behindL xs 0 = j + 1 := by rw [hI, hdr, behindL, if_pos hk]
    refine Zs fun _ hK9 => ?_
    refine Zm ?_
    refine Za ?_
    refine Zn hK9 ?_
    refine AC_ret ?_
    refine Zr hdm ?_
    rw [hI2]; rfl
   ·have hk : ¬ g.k = 5 := of_decide_eq_false hc3
    refine AC_skip ?_
    refine closeS (j + 1) [] rfl rfl (by show xs.length - (j + 1) < xs.length - j; omega) ⟨hlt, by rw [hI, hdr, behindL, if_neg hk]⟩ BxTo_nil Sl_
  ·simp only [injGs_length] at hc2
   have hge : j = xs.length := by have : ¬ j < xs.length := fun h => of_decide_eq_false hc2 (Int.ofNat_lt.2 h)
                                  omega
   have hI2 : behindL xs 0 = xs.length := by rw [hI, hge, List.drop_length]; rfl
   refine Zx hK4 ?_
   refine Zs fun _ hK10 => ?_
   refine Zm ?_
   refine AL_lim (x := (Operand.tmp 21)) rfl fun hl2 => ?_
   refine Ze (Ev_len_sl te119 rfl) ?_
   refine Za ?_
   refine Zn hK10 ?_
   refine AC_ret ?_
   refine Zr hdm ?_
   rw [hI2]; simp
set_option maxHeartbeats 4000000 in
set_option maxRecDepth 4000 in
theorem c_readSigns (xs : List Sg) (hl : xs.length ≤ 1048576) (hgs : GoodS xs) (hx : ∀ g ∈ xs, g.x.size ≤ 32) : PCall Tryz.prog 111 [.sl LSG (injGs xs), .c (.int .i64 0)] (fun ds => ∃ e : D, ds = [inj (readS xs).1, e, .c (.int .i64 (readS xs).2.1), .c (.bool (readS xs).2.2)]) := by
 have hok0 : Okr xs 0 ⟨0, false, 0, []⟩ := ⟨Nat.zero_le _, Nat.le_refl _, Int.le_refl _, by decide, fun _ => rfl⟩
 refine PCall_of (n := 52) Tryz.func111 rfl rfl (Nat.le_of_ble_eq_true rfl) fun C hdm hT0 => ?_
 have hT := hT0
 refine Zs fun _ hK1 => ?_
 refine AL_alloc zo41 _ rfl rfl ?_
 iterate 3 refine Za ?_
 refine Zn hK1 ?_
 refine Zs fun _ hK2 => ?_
 iterate 2 refine Zm ?_
 refine AL_fcall0 hT rfl cl137 (c_behind xs hl) rfl rfl ?_
 refine Za ?_
 refine Zn hK2 ?_
 refine AC_seq fun _ hK3 => ?_
 refine Zs fun _ hK4 => ?_
 iterate 2 refine Zm ?_
 refine AL_lim (x := (Operand.tmp 15)) rfl fun hl1 => ?_
 refine Ze (Ev_len_sl te119 rfl) ?_
 refine Ze (Ev_sub rfl rfl _ (wrap_id (by omega) (by omega))) ?_
 refine AL_fcall0 hT rfl cl138 (c_l01In 0 0 (((injGs xs).length : Int) - 1)) rfl rfl ?_
 refine Ze (Ev_not rfl) ?_
 refine Zn hK4 ?_
 refine Zc (fun hc1 => ?_) fun hc1 => ?_
 ·have h0 : xs.length = 0 := by simp [inB] at hc1; omega
  have hR : readS xs = (term0, ((behindL xs 0 : Nat) : Int), false) := by simp only [readS]; rw [if_pos h0]
  refine Zs fun _ hK5 => ?_
  refine Ze (Ev_build (fs := [.one, .one, .one, .one]) (zs := [.c (.int .i64 0), .c (.string ⟨#[]⟩), .c (.int .i64 0), .c (.slice none 0 0)]) tz41 rfl tpl41 .nil) ?_
  refine AL_bD .one rfl te25 ts9 tz9 rfl rfl (by decide) (by decide) (by rfl) rfl ?_
  refine Zm ?_
  refine Ys ts41 ?_
  iterate 3 refine Za ?_
  refine Zn hK5 ?_
  refine AC_ret ?_
  exact ret_ok hdm (.cell rfl rfl rfl rfl rfl rfl ts41 ta41 (by rfl) (by intro h; cases h) (.tmp rfl rfl (.tmp rfl rfl (.tmp rfl rfl .nil)))) (.cons (.agg (.cons .d (.cons .d (.cons .d (.cons .nil .nil))))) (.cons .d (.cons .d (.cons .d .nil)))) ⟨_, by rw [hR]; rfl⟩
 ·have h0 : ¬ xs.length = 0 := by simp [inB] at hc1; omega
  refine Zk hK3 ?_
  refine Zs fun _ hK6 => ?_
  iterate 2 refine Zm ?_
  refine Ze (Ev_build (fs := [.one, .one, .one, .one, .one]) (zs := [.c (.slice none 0 0), .c (.int .i64 0), .c (.bool false), .c (.int .i64 0), .c (.slice none 0 0)]) tz145 rfl tpl145 (.cons rfl rfl (by rfl) (.cons rfl rfl (by rfl) .nil))) ?_
  refine AL_box (Lay.st [.one, .one, .one, .one, .one]) (nf rfl) rfl (by rfl) _ rfl rfl ?_
  refine Za ?_
  refine Zn hK6 ?_
  refine AC_seq fun _ hK7 => ?_
  refine AC_wk (Wk_nil_box 1 0 [4] 9 .one rfl rfl rfl rfl 2 rfl rfl ?_)
  refine AC_region ?_
  refine Zm ?_
  refine AL_rccS 9 hT 1 3 rfl cl139 (c_termA xs hl hgs hx (xs.length + 3) 0 (by omega) (by omega) 1200 ⟨0, false, 0, []⟩ hok0 rfl (by show xs.length + 2 ≤ xs.length + 3 + 0; omega)) rfl (.cons .d .nil) rfl rfl rfl rfl rfl (fun _ => (.cons .d .nil)) rfl ?_
  rintro ⟨s1, t1⟩ hz1
  have hp1 := term_ok hx (xs.length + 3) 0 (by omega) (by omega) 1200 ⟨0, false, 0, []⟩ hok0 rfl (by show xs.length + 2 ≤ xs.length + 3 + 0; omega)
  rw [← hz1] at hp1
  try simp only at hp1
  have hi1 := hp1.ok.hi
  have hb1 := hp1.bk
  try simp only at hb1
  have hbt : bulk t1 ≤ 1099511627776 := by omega
  refine AL_alloc zo41 _ rfl rfl ?_
  refine Ys ts41 ?_
  refine Zn hK7 ?_
  refine AC_seq fun _ hK8 => ?_
  refine Zs fun _ hK9 => ?_
  refine Zm ?_
  refine AL_qcall hT rfl cl140 (c_is xs (s1) 5 (⟨#[]⟩) (by omega)) (.cons (.rd (.ptr trivial rfl rfl rfl (.agg (.cons .d (.cons .d (.cons .d (.cons .d (.cons (.ref trivial rfl rfl (by simp) (ReadsL_d _)) .nil)))))))) (.cons (.rd .d) (.cons (.rd .d) .nil))) rfl ?_
  refine Ze (Ev_not rfl) ?_
  refine Zm ?_
  refine Zb 32 (fun hg2 => ?_) fun hg2 => ?_
  ·have hm : ¬ isM xs s1 5 ⟨#[]⟩ = true := by simpa using hg2
   have hR : readS xs = (term0, ((behindL xs 0 : Nat) : Int), false) := by simp only [readS]; rw [if_neg h0, ← hz1]; exact if_neg fun h => hm h.1
   iterate 3 refine Zg ?_
   refine Zp ?_
   refine Zn hK9 ?_
   refine AC_cond_t rfl ?_
   refine Zs fun _ hK10 => ?_
   refine Ze (Ev_build (fs := [.one, .one, .one, .one]) (zs := [.c (.int .i64 0), .c (.string ⟨#[]⟩), .c (.int .i64 0), .c (.slice none 0 0)]) tz41 rfl tpl41 .nil) ?_
   refine AL_bD .one rfl te25 ts9 tz9 rfl rfl (by decide) (by decide) (by rfl) rfl ?_
   refine Zm ?_
   refine Ys ts41 ?_
   iterate 3 refine Za ?_
   refine Zn hK10 ?_
   refine AC_ret ?_
   exact ret_ok hdm (.cell rfl rfl rfl rfl rfl rfl ts41 ta41 (by rfl) (by intro h; cases h) (.tmp rfl rfl (.tmp rfl rfl (.tmp rfl rfl .nil)))) (.cons (.agg (.cons .d (.cons .d (.cons .d (.cons .nil .nil))))) (.cons .d (.cons .d (.cons .d .nil)))) ⟨_, by rw [hR]; rfl⟩
  ·have hm : isM xs s1 5 ⟨#[]⟩ = true := by simpa using hg2
   refine Zt ?_
   refine YL ts41 ta41 ?_
   refine Zt ?_
   refine AL_fcall0 hT rfl cl64 (c_specTermOk t1 hbt) rfl rfl ?_
   refine Zt ?_
   refine Ze (Ev_not rfl) ?_
   refine Zp ?_
   refine Zn hK9 ?_
   refine Zc (fun hc3 => ?_) fun hc3 => ?_
   ·have hk : ¬ okT t1 = true := by simpa using hc3
    have hR : readS xs = (term0, ((behindL xs 0 : Nat) : Int), false) := by simp only [readS]; rw [if_neg h0, ← hz1]; exact if_neg fun h => hk h.2
    refine Zs fun _ hK11 => ?_
    refine Ze (Ev_build (fs := [.one, .one, .one, .one]) (zs := [.c (.int .i64 0), .c (.string ⟨#[]⟩), .c (.int .i64 0), .c (.slice none 0 0)]) tz41 rfl tpl41 .nil) ?_
    refine AL_bD .one rfl te25 ts9 tz9 rfl rfl (by decide) (by decide) (by rfl) rfl ?_
    refine Zm ?_
    refine Ys ts41 ?_
    iterate 3 refine Za ?_
    refine Zn hK11 ?_
    refine AC_ret ?_
    exact ret_ok hdm (.cell rfl rfl rfl rfl rfl rfl ts41 ta41 (by rfl) (by intro h; cases h) (.tmp rfl rfl (.tmp rfl rfl (.tmp rfl rfl .nil)))) (.cons (.agg (.cons .d (.cons .d (.cons .d (.cons .nil .nil))))) (.cons .d (.cons .d (.cons .d .nil)))) ⟨_, by rw [hR]; rfl⟩
   ·have hk : okT t1 = true := by simpa using hc3
    have hR : readS xs = (t1, ((s1.i : Nat) : Int) + 1, true) := by simp only [readS]; rw [if_neg h0, ← hz1]; exact if_pos ⟨hm, hk⟩
    refine Zk hK8 ?_
    refine AC_seq fun _ hK12 => ?_
    have hnn1 := hp1.ok.hn
    refine AC_wk (Wk_to [some 0] [(4, .ptr LT 0 0 []), (9, .d (.rp LRD (injR xs s1) [])), (10, .d (.rp LT (inj t1) []))] [some ⟨41, LT, [.d zT]⟩] rfl rfl (Bx (.cons (.rd .d) .nil) BxTo_nil) (SlTo_cons (.ptr rfl) (SlTo_cons (.rd (.ptr (srcFree rfl) rfl rfl rfl (.agg (.cons .d (.cons .d (.cons .d (.cons .d (.cons (.ref (srcFree rfl) rfl rfl (by simp) (ReadsL_d _)) .nil)))))))) (SlTo_cons (.rd (.ptr (srcFree rfl) rfl rfl rfl .d)) SlTo_nil))) ?_)
    refine AC_drawq hT follows [40, 45, 50] [0, 2, 3, 4, 5, 7, 8, 9, 10, 11, 1, 6, 12, 13, 14, 15] (by kernel_rfl) ?_
    refine DT_loadq rfl rfl rfl rfl ts41 ta41 (by simp) (by intro h; cases h) rfl ?_
    refine DT_ev rfl (EA_move) rfl ?_
    refine DT_ev rfl (EA_nilc_rp rfl) rfl ?_
    refine DT_ev rfl (EA_fa_rp rfl fa145_4 rfl rfl) rfl ?_
    refine DT_loadq rfl rfl rfl rfl ts25 ta25 rfl (fun _ => rfl) rfl ?_
    refine DT_ev rfl (EA_move) rfl ?_
    refine DT_ev rfl (EA_nilc_rp rfl) rfl ?_
    refine DT_ev rfl (EA_fa_rp rfl fa145_1 rfl rfl) rfl ?_
    refine DT_loadq rfl rfl rfl rfl ts3 ta3 rfl (fun _ => rfl) rfl ?_
    refine DT_ev rfl (EA_add rfl rfl _ (wrap_id (by omega) (by omega))) rfl ?_
    refine DT_bE .one rfl te25 ts9 rfl ?_
    refine DT_appendE rfl rfl rfl te25 ts9 tz9 tb9 (by decide) (by simp only [lim]; (simp; omega)) rfl ?_
    refine DT_store rfl rfl (nf rfl) rfl rfl rfl rfl rfl rfl (by simp [Lay.len, Lay.lens]) ts41 rfl rfl ?_
    refine DT_ev rfl (EA_assign) rfl ?_
    refine DT_ev rfl (EA_assign) rfl ?_
    refine DT_ev rfl (EA_assign) rfl ?_
    refine Zd hK12 ?_
    refine AC_ret ?_
    exact ret_ok hdm (.cell rfl rfl rfl rfl rfl rfl ts41 ta41 (by simp) (by intro h; cases h) (.tmp rfl rfl (.tmp rfl rfl (.tmp rfl rfl .nil)))) (.cons .d (.cons .d (.cons .d (.cons .d .nil)))) ⟨_, by rw [hR]⟩
set_option maxHeartbeats 1000000 in
set_option maxRecDepth 4000 in
theorem c_readTerm (t : ByteArray) (hs : t.size ≤ 3000) : PCall Tryz.prog 82 [.c (.string t)] (fun ds => ∃ e : D, ds = [inj (readM t).1, e, .c (.bool (readM t).2)]) := by
 have hsg := signs_good (t := t) (by omega)
 refine PCall_of (n := 35) Tryz.func82 rfl rfl (Nat.le_of_ble_eq_true rfl) fun C hdm hT0 => ?_
 have hT := hT0
 refine Zs fun _ hK1 => ?_
 refine AL_alloc zo41 _ rfl rfl ?_
 iterate 2 refine Za ?_
 refine Zn hK1 ?_
 refine Zs fun _ hK2 => ?_
 refine Zm ?_
 refine AL_fcall0 hT rfl cl110 (c_signsOf t hs) rfl rfl ?_
 refine Zm ?_
 refine Ze (Ev_extract rfl rfl) ?_
 refine Ze (Ev_extract rfl rfl) ?_
 iterate 2 refine Za ?_
 refine Zn hK2 ?_
 refine Zs fun _ hK3 => ?_
 refine Zm ?_
 refine AL_pcall0 hT rfl cl111 (c_readSigns (signsM t) hsg.1 hsg.2.1 hsg.2.2) rfl rfl ?_
 rintro _ ⟨e, rfl⟩
 refine Zm ?_
 refine Ze (Ev_extract rfl rfl) ?_
 refine Ze (Ev_extract rfl rfl) ?_
 refine Ze (Ev_extract rfl rfl) ?_
 refine Ze (Ev_extract rfl rfl) ?_
 refine AL_alloc zo41 _ rfl rfl ?_
 refine Ys ts41 ?_
 iterate 3 refine Za ?_
 refine Zn hK3 ?_
 refine AC_seq fun _ hK4 => ?_
 refine Zs fun _ hK5 => ?_
 refine Zm ?_
 refine Ze (Ev_not rfl) ?_
 refine Zm ?_
 refine Zb 25 (fun hg1 => ?_) fun hg1 => ?_
 ·have hR : readM t = (term0, false) := by rw [readM_eq]; exact if_neg fun h => by rw [h.1] at hg1; cases hg1
  iterate 4 refine Zg ?_
  refine Zp ?_
  refine Zn hK5 ?_
  refine AC_cond_t rfl ?_
  refine Zs fun _ hK6 => ?_
  refine Ze (Ev_build (fs := [.one, .one, .one, .one]) (zs := [.c (.int .i64 0), .c (.string ⟨#[]⟩), .c (.int .i64 0), .c (.slice none 0 0)]) tz41 rfl tpl41 .nil) ?_
  refine AL_bD .one rfl te25 ts9 tz9 rfl rfl (by decide) (by decide) (by rfl) rfl ?_
  refine Ys ts41 ?_
  iterate 2 refine Za ?_
  refine Zn hK6 ?_
  refine AC_ret ?_
  exact ret_ok hdm (.cell rfl rfl rfl rfl rfl rfl ts41 ta41 (by rfl) (by intro h; cases h) (.tmp rfl rfl (.tmp rfl rfl .nil))) (.cons (.agg (.cons .d (.cons .d (.cons .d (.cons .nil .nil))))) (.cons .d (.cons .d .nil))) ⟨_, by rw [hR]; rfl⟩
 ·have hcc : (readS (signsM t)).2.2 = true := by simpa using hg1
  refine Zt ?_
  refine Zm ?_
  refine Zt ?_
  refine Zm ?_
  refine Zt ?_
  refine AL_lim (x := (Operand.tmp 27)) rfl fun hl1 => ?_
  refine Ze (Ev_len_sl te119 rfl) ?_
  refine Zt ?_
  refine Ze (Ev_neq rfl rfl) ?_
  refine Zp ?_
  refine Zn hK5 ?_
  refine Zc (fun hc2 => ?_) fun hc2 => ?_
  ·simp only [injGs_length] at hc2
   have hR : readM t = (term0, false) := by rw [readM_eq]; exact if_neg fun h => by simp [h.2] at hc2
   refine Zs fun _ hK7 => ?_
   refine Ze (Ev_build (fs := [.one, .one, .one, .one]) (zs := [.c (.int .i64 0), .c (.string ⟨#[]⟩), .c (.int .i64 0), .c (.slice none 0 0)]) tz41 rfl tpl41 .nil) ?_
   refine AL_bD .one rfl te25 ts9 tz9 rfl rfl (by decide) (by decide) (by rfl) rfl ?_
   refine Ys ts41 ?_
   iterate 2 refine Za ?_
   refine Zn hK7 ?_
   refine AC_ret ?_
   exact ret_ok hdm (.cell rfl rfl rfl rfl rfl rfl ts41 ta41 (by rfl) (by intro h; cases h) (.tmp rfl rfl (.tmp rfl rfl .nil))) (.cons (.agg (.cons .d (.cons .d (.cons .d (.cons .nil .nil))))) (.cons .d (.cons .d .nil))) ⟨_, by rw [hR]; rfl⟩
  ·simp only [injGs_length] at hc2
   have hR : readM t = ((readS (signsM t)).1, true) := by rw [readM_eq]; exact if_pos ⟨hcc, by simpa using hc2⟩
   refine Zk hK4 ?_
   refine Zs fun _ hK8 => ?_
   refine YL ts41 ta41 ?_
   refine Zm ?_
   refine Ys ts41 ?_
   iterate 2 refine Za ?_
   refine Zn hK8 ?_
   refine AC_ret ?_
   exact ret_ok hdm (.cell rfl rfl rfl rfl rfl rfl ts41 ta41 (by simp) (by intro h; cases h) (.tmp rfl rfl (.tmp rfl rfl .nil))) (.cons .d (.cons .d (.cons .d .nil))) ⟨_, by rw [hR]⟩
set_option maxHeartbeats 1000000 in
set_option maxRecDepth 4000 in
theorem c_copy (cs : List Cl) (op : List ByteArray) (hl : cs.length ≤ 1048576) (ho : op.length ≤ 1048576) : PCall Tryz.prog 122 [injD ⟨cs, op⟩] (· = [injD ⟨cs, op⟩]) := by
 refine PCall_of (n := 12) Tryz.func122 rfl rfl (Nat.le_of_ble_eq_true rfl) fun C hdm hT0 => ?_
 have hT := hT0
 refine Zs fun _ hK1 => ?_
 refine AL_box (Lay.st [.one, .one]) (nf rfl) rfl (by rfl) _ rfl rfl ?_
 refine AL_alloc zo27 _ rfl rfl ?_
 refine Zn hK1 ?_
 refine AC_seq fun _ hK2 => ?_
 refine AC_wk (Wk_to [some 1] [(1, .d (.rp LD (injD ⟨cs, op⟩) [])), (2, .ptr LD 0 0 [])] [some ⟨27, LD, [.d zDb]⟩] rfl rfl (Bx (.cons (.rd .d) .nil) BxTo_nil) (SlTo_cons (.rd (.ptr (srcFree rfl) rfl rfl rfl .d)) Sl_) ?_)
 refine AC_drawq hT follows [5, 9] [1, 2, 5, 6, 0, 4, 3, 7, 8, 9] (by kernel_rfl) ?_
 refine DT_ev rfl (EA_fa_rp rfl fa27_0 rfl rfl) rfl ?_
 refine DT_loadq rfl rfl rfl rfl ts24 ta24 rfl (fun _ => rfl) rfl ?_
 refine DT_ev rfl (EA_fa_rp rfl fa27_1 rfl rfl) rfl ?_
 refine DT_loadq rfl rfl rfl rfl ts25 ta25 rfl (fun _ => rfl) rfl ?_
 refine DT_bE (Lay.st [(Lay.st [.one, .one, .one, .one]), (Lay.st [.one, .one, .one, .one]), .one]) rfl te24 ts54 rfl ?_
 refine DT_bE .one rfl te25 ts9 rfl ?_
 refine DT_appendE rfl rfl rfl te24 ts54 tz54 tb54 (by decide) (by simp only [lim]; (simp; omega)) rfl ?_
 refine DT_appendE rfl rfl rfl te25 ts9 tz9 tb9 (by decide) (by simp only [lim]; (simp; omega)) rfl ?_
 refine DT_ev rfl (EA_build (fs := [.one, .one]) (zs := [.c (.slice none 0 0), .c (.slice none 0 0)]) tz27 rfl tpl27 (.cons rfl rfl (by rfl) (.cons rfl rfl (by rfl) .nil))) rfl ?_
 refine DT_store rfl rfl (nf rfl) rfl rfl rfl rfl rfl rfl (by rfl) ts27 rfl rfl ?_
 refine Zd hK2 ?_
 refine AC_ret ?_
 exact ret_ok hdm (.cell rfl rfl rfl rfl rfl rfl ts27 ta27 (by rfl) (by intro h; cases h) .nil) (.cons (.agg (.cons .d (.cons .d .nil))) .nil) rfl
set_option maxHeartbeats 1000000 in
set_option maxRecDepth 4000 in
theorem c_copyO (cs : List Cl) (op : List ByteArray) (hl : cs.length ≤ 1048576) (ho : op.length ≤ 1048576) (hne : 0 < (injCs cs).length) : OwC Tryz.prog 122 [injD ⟨cs, op⟩] [.agg [.one, .one] [.ref LC 0 0 cs.length, .d (.sl .one (strs op))]] [⟨54, LC, (injCs cs).map V.d⟩] := by
 refine HCallX_of (n := 12) Tryz.func122 rfl rfl (Nat.le_of_ble_eq_true rfl) (Nat.le_refl 0) fun C0 o hT => ?_
 refine Zs fun _ hK1 => ?_
 refine AL_box (Lay.st [.one, .one]) (nf rfl) rfl (by rfl) _ rfl rfl ?_
 refine AL_alloc zo27 _ rfl rfl ?_
 refine Zn hK1 ?_
 refine AC_seq fun _ hK2 => ?_
 refine AC_wk (Wk_to [some 1] [(1, .d (.rp LD (injD ⟨cs, op⟩) [])), (2, .ptr LD 0 0 [])] [some ⟨27, LD, [.d zDb]⟩] rfl rfl (Bx (.cons (.rd .d) .nil) BxTo_nil) (SlTo_cons (.rd (.ptr (srcFree rfl) rfl rfl rfl .d)) Sl_) ?_)
 refine AC_drawq hT follows [5, 9] [1, 2, 5, 6, 0, 4, 3, 7, 8, 9] (by kernel_rfl) ?_
 refine DT_ev rfl (EA_fa_rp rfl fa27_0 rfl rfl) rfl ?_
 refine DT_loadq rfl rfl rfl rfl ts24 ta24 rfl (fun _ => rfl) rfl ?_
 refine DT_ev rfl (EA_fa_rp rfl fa27_1 rfl rfl) rfl ?_
 refine DT_loadq rfl rfl rfl rfl ts25 ta25 rfl (fun _ => rfl) rfl ?_
 refine DT_bE (Lay.st [(Lay.st [.one, .one, .one, .one]), (Lay.st [.one, .one, .one, .one]), .one]) rfl te24 ts54 rfl ?_
 refine DT_bE .one rfl te25 ts9 rfl ?_
 refine DT_appendO rfl rfl rfl (by assumption) te24 ts54 tz54 rfl tb54 (by decide) (by simp only [lim]; (simp; omega)) _ rfl rfl ?_
 refine DT_appendE rfl rfl rfl te25 ts9 tz9 tb9 (by decide) (by simp only [lim]; (simp; omega)) rfl ?_
 refine DT_ev rfl (EA_build (fs := [.one, .one]) (zs := [.c (.slice none 0 0), .c (.slice none 0 0)]) tz27 rfl tpl27 (.cons rfl rfl (by rfl) (.cons rfl rfl (by rfl) .nil))) rfl ?_
 refine DT_store rfl rfl (nf rfl) rfl rfl rfl rfl rfl rfl (by rfl) ts27 rfl rfl ?_
 refine Zd hK2 ?_
 refine AC_ret ?_
 exact retr_ok () trivial [1] (CExt.refl _) (.cell rfl rfl rfl rfl rfl rfl ts27 ta27 (by rfl) (by intro h; cases h) .nil) rfl rfl (BxF_cons rfl rfl rfl rfl rfl (VxL_d _) (Nat.zero_le _) BxF_nil) (Nat.zero_le _) (.cons (.agg (.cons (Vx_refe rfl (by simp)) (.cons .d .nil))) .nil)
set_option maxHeartbeats 1000000 in
set_option maxRecDepth 4000 in
theorem c_copyE (op : List ByteArray) (ho : op.length ≤ 1048576) : OwC Tryz.prog 122 [injD ⟨[], op⟩] [.agg [.one, .one] [.emp, .d (.sl .one (strs op))]] [] := by
 refine HCallX_of (n := 12) Tryz.func122 rfl rfl (Nat.le_of_ble_eq_true rfl) (Nat.le_refl 0) fun C0 o hT => ?_
 refine Zs fun _ hK1 => ?_
 refine AL_box (Lay.st [.one, .one]) (nf rfl) rfl (by rfl) _ rfl rfl ?_
 refine AL_alloc zo27 _ rfl rfl ?_
 refine Zn hK1 ?_
 refine AC_seq fun _ hK2 => ?_
 refine AC_wk (Wk_to [some 1] [(1, .d (.rp LD (injD ⟨[], op⟩) [])), (2, .ptr LD 0 0 [])] [some ⟨27, LD, [.d zDb]⟩] rfl rfl (Bx (.cons (.rd .d) .nil) BxTo_nil) (SlTo_cons (.rd (.ptr (srcFree rfl) rfl rfl rfl .d)) Sl_) ?_)
 refine AC_drawq hT follows [5, 9] [1, 2, 5, 6, 0, 4, 3, 7, 8, 9] (by kernel_rfl) ?_
 refine DT_ev rfl (EA_fa_rp rfl fa27_0 rfl rfl) rfl ?_
 refine DT_loadq rfl rfl rfl rfl ts24 ta24 rfl (fun _ => rfl) rfl ?_
 refine DT_ev rfl (EA_fa_rp rfl fa27_1 rfl rfl) rfl ?_
 refine DT_loadq rfl rfl rfl rfl ts25 ta25 rfl (fun _ => rfl) rfl ?_
 refine DT_bE (Lay.st [(Lay.st [.one, .one, .one, .one]), (Lay.st [.one, .one, .one, .one]), .one]) rfl te24 ts54 rfl ?_
 refine DT_bE .one rfl te25 ts9 rfl ?_
 refine DT_appendEE rfl rfl rfl te24 ts54 tz54 tb54 rfl ?_
 refine DT_appendE rfl rfl rfl te25 ts9 tz9 tb9 (by decide) (by simp only [lim]; (simp; omega)) rfl ?_
 refine DT_ev rfl (EA_build (fs := [.one, .one]) (zs := [.c (.slice none 0 0), .c (.slice none 0 0)]) tz27 rfl tpl27 (.cons rfl rfl (by rfl) (.cons rfl rfl (by rfl) .nil))) rfl ?_
 refine DT_store rfl rfl (nf rfl) rfl rfl rfl rfl rfl rfl (by rfl) ts27 rfl rfl ?_
 refine Zd hK2 ?_
 refine AC_ret ?_
 exact retr_ok () trivial [] (CExt.refl _) (.cell rfl rfl rfl rfl rfl rfl ts27 ta27 (by rfl) (by intro h; cases h) .nil) rfl rfl BxF_nil (Nat.zero_le _) (.cons (.agg (.cons .emp (.cons .d .nil))) .nil)
set_option maxHeartbeats 1000000 in
set_option maxRecDepth 4000 in
theorem c_addedO (cs : List Cl) (op : List ByteArray) (hl : cs.length ≤ 1048576) (ho : op.length ≤ 1048576) (hne : 0 < (injCs cs).length) (c : Cl) (hb : bulkD ⟨cs ++ [c], op⟩ ≤ 1099511627775) : PCall Tryz.prog 114 [injD ⟨cs, op⟩, injC c] (· = [injD (addM ⟨cs, op⟩ c).1, .c (.bool (addM ⟨cs, op⟩ c).2)]) := by
 refine PCall_of (n := 21) Tryz.func114 rfl rfl (Nat.le_of_ble_eq_true rfl) fun C hdm hT0 => ?_
 have hT := hT0
 refine Zs fun _ hK1 => ?_
 refine AL_box (Lay.st [.one, .one]) (nf rfl) rfl (by rfl) _ rfl rfl ?_
 refine AL_box (Lay.st [(Lay.st [.one, .one, .one, .one]), (Lay.st [.one, .one, .one, .one]), .one]) (nf rfl) rfl (by rfl) _ rfl rfl ?_
 refine AL_alloc zo27 _ rfl rfl ?_
 refine Za ?_
 refine Zn hK1 ?_
 refine Zs fun _ hK2 => ?_
 refine YL ts27 ta27 ?_
 refine AL_owc hT rfl cl122 (c_copyO cs op hl ho hne) rfl 3 rfl [.agg [.one, .one] [.ref LC 3 0 cs.length, .d (.sl .one (strs op))]] [⟨54, LC, (injCs cs).map V.d⟩] (BxO_cons rfl rfl (VxL_d _) rfl BxO_nil) (.cons (.agg (.cons (.ref rfl) (.cons .d .nil))) .nil) rfl ?_
 refine AL_alloc zo27 _ rfl rfl ?_
 refine Ys ts27 ?_
 refine Zn hK2 ?_
 refine Zs fun _ hK3 => ?_
 refine Ya fa27_0 ?_
 refine Yl ts24 ta24 ?_
 refine YL ts54 ta54 ?_
 refine AL_bD (Lay.st [(Lay.st [.one, .one, .one, .one]), (Lay.st [.one, .one, .one, .one]), .one]) rfl te24 ts54 tz54 rfl rfl (by decide) (by decide) (by rfl) rfl ?_
 refine AL_append rfl rfl rfl te24 ts54 tz54 rfl tb54 (by decide) (by decide) rfl (by (simp; done)) (Src_sl rfl) (by simp only [lim]; (simp; omega)) _ rfl rfl ?_
 refine Ya fa27_0 ?_
 refine Ys ts24 ?_
 refine Zn hK3 ?_
 refine AC_seq fun _ hK4 => ?_
 refine Zs fun _ hK5 => ?_
 refine YL ts27 ta27 ?_
 refine AL_qcall hT rfl cl144 (c_specDbOk ⟨cs ++ [c], op⟩ hb) (.cons (.rd (.agg (.cons (.ref trivial rfl rfl (by simp) (ReadsL_eq (injCs_app cs c))) (.cons .d .nil)))) .nil) rfl ?_
 refine Ze (Ev_not rfl) ?_
 refine Zn hK5 ?_
 refine Zc (fun hc1 => ?_) fun hc1 => ?_
 ·have hk : dbB ⟨cs ++ [c], op⟩ = false := by simpa using hc1
  refine Zs fun _ hK6 => ?_
  refine YL ts27 ta27 ?_
  refine AL_fcall0 hT rfl cl122 (c_copy cs op hl ho) rfl rfl ?_
  refine Ys ts27 ?_
  refine Za ?_
  refine Zn hK6 ?_
  refine AC_ret ?_
  exact ret_ok hdm (.cell rfl rfl rfl rfl rfl rfl ts27 ta27 (by rfl) (by intro h; cases h) (.tmp rfl rfl .nil)) (.cons .d (.cons .d .nil)) (by rw [addM_f hk])
 ·have hk : dbB ⟨cs ++ [c], op⟩ = true := by simpa using hc1
  refine Zk hK4 ?_
  refine Zs fun _ hK7 => ?_
  refine YL ts27 ta27 ?_
  refine Ys ts27 ?_
  refine Za ?_
  refine Zn hK7 ?_
  refine AC_ret ?_
  exact ret_ok hdm (.cell rfl rfl rfl rfl rfl rfl ts27 ta27 (by rfl) (by intro h; cases h) (.tmp rfl rfl .nil)) (.cons (.agg (.cons (.ref trivial rfl rfl (by simp) (ReadsL_eq (injCs_app cs c))) (.cons .d .nil))) (.cons .d .nil)) (by rw [addM_t hk]; rfl)
set_option maxHeartbeats 1000000 in
set_option maxRecDepth 4000 in
theorem c_addedE (op : List ByteArray) (ho : op.length ≤ 1048576) (c : Cl) (hb : bulkD ⟨[] ++ [c], op⟩ ≤ 1099511627775) : PCall Tryz.prog 114 [injD ⟨[], op⟩, injC c] (· = [injD (addM ⟨[], op⟩ c).1, .c (.bool (addM ⟨[], op⟩ c).2)]) := by
 refine PCall_of (n := 21) Tryz.func114 rfl rfl (Nat.le_of_ble_eq_true rfl) fun C hdm hT0 => ?_
 have hT := hT0
 refine Zs fun _ hK1 => ?_
 refine AL_box (Lay.st [.one, .one]) (nf rfl) rfl (by rfl) _ rfl rfl ?_
 refine AL_box (Lay.st [(Lay.st [.one, .one, .one, .one]), (Lay.st [.one, .one, .one, .one]), .one]) (nf rfl) rfl (by rfl) _ rfl rfl ?_
 refine AL_alloc zo27 _ rfl rfl ?_
 refine Za ?_
 refine Zn hK1 ?_
 refine Zs fun _ hK2 => ?_
 refine YL ts27 ta27 ?_
 refine AL_owc hT rfl cl122 (c_copyE op ho) rfl 3 rfl [.agg [.one, .one] [.emp, .d (.sl .one (strs op))]] [] BxO_nil (.cons (.agg (.cons .emp (.cons .d .nil))) .nil) rfl ?_
 refine AL_alloc zo27 _ rfl rfl ?_
 refine Ys ts27 ?_
 refine Zn hK2 ?_
 refine Zs fun _ hK3 => ?_
 refine Ya fa27_0 ?_
 refine Yl ts24 ta24 ?_
 refine YL ts54 ta54 ?_
 refine AL_bD (Lay.st [(Lay.st [.one, .one, .one, .one]), (Lay.st [.one, .one, .one, .one]), .one]) rfl te24 ts54 tz54 rfl rfl (by decide) (by decide) (by rfl) rfl ?_
 refine AL_appendE rfl rfl te24 ts54 tz54 tb54 (by decide) (by simp only [lim]; (simp; done)) rfl ?_
 refine Ya fa27_0 ?_
 refine Ys ts24 ?_
 refine Zn hK3 ?_
 refine AC_seq fun _ hK4 => ?_
 refine Zs fun _ hK5 => ?_
 refine YL ts27 ta27 ?_
 refine AL_qcall hT rfl cl144 (c_specDbOk ⟨[] ++ [c], op⟩ hb) (.cons (.rd (.agg (.cons .d (.cons .d .nil)))) .nil) rfl ?_
 refine Ze (Ev_not rfl) ?_
 refine Zn hK5 ?_
 refine Zc (fun hc1 => ?_) fun hc1 => ?_
 ·have hk : dbB ⟨[] ++ [c], op⟩ = false := by simpa using hc1
  refine Zs fun _ hK6 => ?_
  refine YL ts27 ta27 ?_
  refine AL_fcall0 hT rfl cl122 (c_copy [] op (Nat.zero_le _) ho) rfl rfl ?_
  refine Ys ts27 ?_
  refine Za ?_
  refine Zn hK6 ?_
  refine AC_ret ?_
  exact ret_ok hdm (.cell rfl rfl rfl rfl rfl rfl ts27 ta27 (by rfl) (by intro h; cases h) (.tmp rfl rfl .nil)) (.cons .d (.cons .d .nil)) (by rw [addM_f hk])
 ·have hk : dbB ⟨[] ++ [c], op⟩ = true := by simpa using hc1
  refine Zk hK4 ?_
  refine Zs fun _ hK7 => ?_
  refine YL ts27 ta27 ?_
  refine Ys ts27 ?_
  refine Za ?_
  refine Zn hK7 ?_
  refine AC_ret ?_
  exact ret_ok hdm (.cell rfl rfl rfl rfl rfl rfl ts27 ta27 (by rfl) (by intro h; cases h) (.tmp rfl rfl .nil)) (.cons (.agg (.cons .d (.cons .d .nil))) (.cons .d .nil)) (by rw [addM_t hk]; rfl)
theorem c_addedRaw (cs : List Cl) (op : List ByteArray) (hl : cs.length ≤ 1048576) (ho : op.length ≤ 1048576) (c : Cl) (hb : bulkD ⟨cs ++ [c], op⟩ ≤ 1099511627775) : PCall Tryz.prog 114 [injD ⟨cs, op⟩, injC c] (· = [injD (addM ⟨cs, op⟩ c).1, .c (.bool (addM ⟨cs, op⟩ c).2)]) := by
 cases cs with
 | nil => exact c_addedE op ho c hb
 | cons a r => exact c_addedO (a :: r) op hl ho (by simp) c hb
end Go.Proofs.YtjgliechbnommaaGreatDoor
set_option linter.unusedVariables false
set_option linter.unusedSimpArgs false
namespace Go.Proofs.YtjgliechbnommaaGreatDoor
open Go.Eng
set_option maxHeartbeats 1000000 in
set_option maxRecDepth 4000 in
theorem c_l03Is (k : Int) (s : ByteArray) (m : Int) (ks : List T) (s2 : ByteArray) (n : Nat) : PCall Tryz.prog 141 [inj (.mk k s m ks), .c (.string s2), .c (.int .i64 (n : Int))] (· = [.c (.bool (decide (k = 4) && decide (s = s2) && decide (ks.length = n)))]) := by
 refine PCall_of (n := 23) Tryz.func141 rfl rfl (Nat.le_of_ble_eq_true rfl) fun C hdm hT0 => ?_
 have hT := hT0
 refine Zs fun _ hK1 => ?_
 refine AL_box (Lay.st [.one, .one, .one, .one]) (nf rfl) rfl (by rfl) _ rfl rfl ?_
 refine Za ?_
 refine Zn hK1 ?_
 refine Zs fun _ hK2 => ?_
 refine Ya fa41_0 ?_
 refine Yl ts3 ta3 ?_
 refine Ze (Ev_eql rfl rfl) ?_
 refine Zm ?_
 refine Zb 10 (fun hg1 => ?_) fun hg1 => ?_
 ·refine Zt ?_
  refine Ya fa41_1 ?_
  refine Zt ?_
  refine Yl ts9 ta9 ?_
  refine Zt ?_
  refine Zm ?_
  refine Zt ?_
  refine Ze (Ev_seql rfl rfl) ?_
  refine Zp ?_
  refine Zm ?_
  refine Zb 16 (fun hg2 => ?_) fun hg2 => ?_
  ·refine Zt ?_
   refine Ya fa41_3 ?_
   refine Zt ?_
   refine Yl ts39 ta39 ?_
   refine Zt ?_
   refine AL_lim (x := (Operand.tmp 18)) rfl fun hl1 => ?_
   try simp only [injs_length, ints_length, strs_length, injCs_length, u8s_length, List.length_map] at hl1
   refine Ze (Ev_len_injs te39 rfl) ?_
   refine Zt ?_
   refine Zm ?_
   refine Zt ?_
   refine Ze (Ev_eql rfl rfl) ?_
   refine Zp ?_
   refine Za ?_
   refine Zn hK2 ?_
   refine AC_ret ?_
   refine Zr hdm ?_
   have e9 : decide ((ks.length : Int) = (n : Int)) = decide (ks.length = n) := by by_cases h : ks.length = n <;> simp [h]; omega
   simp_all
  ·iterate 5 refine Zg ?_
   refine Zp ?_
   refine Za ?_
   refine Zn hK2 ?_
   refine AC_ret ?_
   refine Zr hdm ?_
   have e9 : decide ((ks.length : Int) = (n : Int)) = decide (ks.length = n) := by by_cases h : ks.length = n <;> simp [h]; omega
   simp_all
 ·iterate 4 refine Zg ?_
  refine Zp ?_
  refine Zm ?_
  iterate 5 refine Zg ?_
  refine Zp ?_
  refine Za ?_
  refine Zn hK2 ?_
  refine AC_ret ?_
  refine Zr hdm ?_
  have e9 : decide ((ks.length : Int) = (n : Int)) = decide (ks.length = n) := by by_cases h : ks.length = n <;> simp [h]; omega
  simp_all
end Go.Proofs.YtjgliechbnommaaGreatDoor
set_option linter.unusedVariables false
set_option linter.unusedSimpArgs false
namespace Go.Proofs.YtjgliechbnommaaGreatDoor
open Go.Eng
theorem cl112 : Callable Tryz.prog 112 := Zq Tryz.func112
theorem cl114 : Callable Tryz.prog 114 := Zq Tryz.func114
theorem cl115 : Callable Tryz.prog 115 := Zq Tryz.func115
theorem cl141 : Callable Tryz.prog 141 := Zq Tryz.func141
theorem cl145 : Callable Tryz.prog 145 := Zq Tryz.func145
theorem cl39 : Callable Tryz.prog 39 := Zq Tryz.func39
theorem cl40 : Callable Tryz.prog 40 := Zq Tryz.func40
theorem cl56 : Callable Tryz.prog 56 := Zq Tryz.func56
theorem cl80 : Callable Tryz.prog 80 := Zq Tryz.func80
theorem cl81 : Callable Tryz.prog 81 := Zq Tryz.func81
theorem cl82 : Callable Tryz.prog 82 := Zq Tryz.func82
theorem cl84 : Callable Tryz.prog 84 := Zq Tryz.func84
theorem cl85 : Callable Tryz.prog 85 := Zq Tryz.func85
set_option maxHeartbeats 1000000 in
set_option maxRecDepth 4000 in
theorem c_l34Strings (xs : List ByteArray) (hl : xs.length ≤ 1048576) : PCall Tryz.prog 145 [.sl .one (strs xs)] (· = [.sl .one (strs xs)]) := by
 refine PCall_of (n := 6) Tryz.func145 rfl rfl (Nat.le_of_ble_eq_true rfl) fun C hdm hT0 => ?_
 have hT := hT0
 refine Zs fun _ hK1 => ?_
 refine Za ?_
 refine Zn hK1 ?_
 refine Zs fun _ hK2 => ?_
 refine AL_bV .one rfl te25 ts9 tz9 rfl rfl (by decide) (by decide) (by rfl) _ rfl rfl ?_
 refine Zm ?_
 refine AL_append rfl rfl rfl te25 ts9 tz9 rfl tb9 (by decide) (by decide) rfl (by rfl) (Src_sl rfl) (by simp only [lim]; (simp; omega)) _ rfl rfl ?_
 refine Za ?_
 refine Zn hK2 ?_
 refine AC_ret ?_
 exact ret_ok hdm (.tmp rfl rfl .nil) (.cons (.ref trivial rfl rfl (by simp) (ReadsL_d _)) .nil) rfl
set_option maxHeartbeats 1000000 in
set_option maxRecDepth 4000 in
theorem c_l34Db (d : Dbt) (ho : d.op.length ≤ 1048576) : PCall Tryz.prog 115 [injD d] (· = [injD d]) := by
 obtain ⟨cs, op⟩ := d
 refine PCall_of (n := 12) Tryz.func115 rfl rfl (Nat.le_of_ble_eq_true rfl) fun C hdm hT0 => ?_
 have hT := hT0
 refine Zs fun _ hK1 => ?_
 refine AL_box (Lay.st [.one, .one]) (nf rfl) rfl (by rfl) _ rfl rfl ?_
 refine AL_alloc zo27 _ rfl rfl ?_
 refine Zn hK1 ?_
 refine Zs fun _ hK2 => ?_
 refine Ya fa27_0 ?_
 refine Yl ts24 ta24 ?_
 refine AL_fcall0 hT rfl cl90 (c_l34Clauses cs) rfl rfl ?_
 refine Ya fa27_0 ?_
 refine Ys ts24 ?_
 refine Zn hK2 ?_
 refine Zs fun _ hK3 => ?_
 refine Ya fa27_1 ?_
 refine Yl ts25 ta25 ?_
 refine AL_fcall0 hT rfl cl145 (c_l34Strings op ho) rfl rfl ?_
 refine Ya fa27_1 ?_
 refine Ys ts25 ?_
 refine Zn hK3 ?_
 refine Zs fun _ hK4 => ?_
 refine YL ts27 ta27 ?_
 refine Ys ts27 ?_
 refine Zn hK4 ?_
 refine AC_ret ?_
 exact ret_ok hdm (.cell rfl rfl rfl rfl rfl rfl ts27 ta27 (by rfl) (by intro h; cases h) .nil) (.cons (.agg (.cons .d (.cons .d .nil))) .nil) rfl
set_option maxHeartbeats 1000000 in
set_option maxRecDepth 4000 in
theorem c_added (d : Dbt) (c : Cl) (hl : d.cs.length ≤ 1048576) (ho : d.op.length ≤ 1048576) (hb : bulkD ⟨d.cs ++ [c], d.op⟩ ≤ 1099511627775) : PCall Tryz.prog 85 [injD d, injC c] (· = [injD (addM d c).1, .c (.bool (addM d c).2)]) := by
 obtain ⟨cs, op⟩ := d
 refine PCall_of (n := 17) Tryz.func85 rfl rfl (Nat.le_of_ble_eq_true rfl) fun C hdm hT0 => ?_
 have hT := hT0
 refine Zs fun _ hK1 => ?_
 refine AL_box (Lay.st [.one, .one]) (nf rfl) rfl (by rfl) _ rfl rfl ?_
 refine AL_box (Lay.st [(Lay.st [.one, .one, .one, .one]), (Lay.st [.one, .one, .one, .one]), .one]) (nf rfl) rfl (by rfl) _ rfl rfl ?_
 refine AL_alloc zo27 _ rfl rfl ?_
 refine Za ?_
 refine Zn hK1 ?_
 refine Zs fun _ hK2 => ?_
 refine YL ts27 ta27 ?_
 refine YL ts54 ta54 ?_
 refine AL_fcall0 hT rfl cl114 (c_addedRaw cs op hl ho c hb) rfl rfl ?_
 refine Zm ?_
 refine Ze (Ev_extract rfl rfl) ?_
 refine Ze (Ev_extract rfl rfl) ?_
 refine AL_alloc zo27 _ rfl rfl ?_
 refine Ys ts27 ?_
 refine Za ?_
 refine Zn hK2 ?_
 refine Zs fun _ hK3 => ?_
 refine YL ts27 ta27 ?_
 refine AL_fcall0 hT rfl cl115 (c_l34Db (addM ⟨cs, op⟩ c).1 (by rw [(addM_len ⟨cs, op⟩ c).2]; exact ho)) rfl rfl ?_
 refine Zm ?_
 refine Ys ts27 ?_
 refine Za ?_
 refine Zn hK3 ?_
 refine AC_ret ?_
 exact ret_ok hdm (.cell rfl rfl rfl rfl rfl rfl ts27 ta27 (by rfl) (by intro h; cases h) (.tmp rfl rfl .nil)) (.cons .d (.cons .d .nil)) rfl
set_option maxHeartbeats 2000000 in
set_option maxRecDepth 4000 in
theorem c_clOf1 (m : Int) (a : T) (kb : Int) (sb : ByteArray) (mb : Int) (ksb : List T) (f : ByteArray) (hb : bulk (.mk 4 neck m [a, .mk kb sb mb ksb]) ≤ 1099511627770) : PCall Tryz.prog 112 [inj (.mk 4 neck m [a, .mk kb sb mb ksb]), .c (.string f)] (· = [injC (clOf (.mk 4 neck m [a, .mk kb sb mb ksb]) f).1, .c (.bool (clOf (.mk 4 neck m [a, .mk kb sb mb ksb]) f).2)]) := by
 have hu0 : (injs [a, .mk kb sb mb ksb])[(0 : Int).toNat]? = some (inj a) := rfl
 have hu1 : (injs [a, .mk kb sb mb ksb])[(1 : Int).toNat]? = some (inj (.mk kb sb mb ksb)) := rfl
 have hsz : (neck.size : Int) = 2 := rfl
 have hsc : (callN.size : Int) = 4 := rfl
 have hbs := hb
 simp only [bulk, bulkS_eq, bulkL, List.length_cons, List.length_nil] at hbs
 have hna := bulk_nn a
 have hnb := bulkL_nn ksb
 have hba : bulk a ≤ 1099511627776 := by omega
 have hbb : bulk (.mk kb sb mb ksb) ≤ 1099511627776 := by simp only [bulk, bulkS_eq]; omega
 have hbc : bulk (.mk 4 callN 0 [.mk kb sb mb ksb]) ≤ 1099511627776 := by simp only [bulk, bulkS_eq, bulkL, List.length_cons, List.length_nil]; omega
 refine PCall_of (n := 48) Tryz.func112 rfl rfl (Nat.le_of_ble_eq_true rfl) fun C hdm hT0 => ?_
 have hT := hT0
 refine Zs fun _ hK1 => ?_
 refine AL_box (Lay.st [.one, .one, .one, .one]) (nf rfl) rfl (by rfl) _ rfl rfl ?_
 refine AL_alloc zo54 _ rfl rfl ?_
 refine Za ?_
 refine Zn hK1 ?_
 refine AC_seq fun _ hK2 => ?_
 refine Zs fun _ hK3 => ?_
 refine YL ts41 ta41 ?_
 refine AL_fcall0 hT rfl cl64 (c_specTermOk (.mk 4 neck m [a, .mk kb sb mb ksb]) (by omega)) rfl rfl ?_
 refine Ze (Ev_not rfl) ?_
 refine Zn hK3 ?_
 refine Zc (fun hc1 => ?_) fun hc1 => ?_
 ·have h0 : ¬ okT (.mk 4 neck m [a, .mk kb sb mb ksb]) = true := by simpa using hc1
  have hR : clOf (.mk 4 neck m [a, .mk kb sb mb ksb]) f = (clZ, false) := by simp only [clOf]; exact if_neg fun h => h0 h.1
  refine Zs fun _ hK4 => ?_
  refine Ze (Ev_buildD (fs := [LT, LT, .one]) (zs := [zT, zT, .c (.string ⟨#[]⟩)]) tz54 rfl tpl54 .nil rfl) ?_
  refine AL_wk (Wk_conv 10 rfl zC_le ?_)
  refine Ys ts54 ?_
  refine Za ?_
  refine Zn hK4 ?_
  refine AC_ret ?_
  exact ret_ok hdm (.cell rfl rfl rfl rfl rfl rfl ts54 ta54 (by rfl) (by intro h; cases h) (.tmp rfl rfl .nil)) (.cons .d (.cons .d .nil)) (by rw [hR])
 ·have h0 : okT (.mk 4 neck m [a, .mk kb sb mb ksb]) = true := by simpa using hc1
  refine Zk hK2 ?_
  refine AC_seq fun _ hK5 => ?_
  refine AC_draw hT follows [0, 1, 2, 3, 4, 5] (by kernel_rfl) ?_
  refine DT_ev rfl (EA_load_ptr rfl rfl rfl rfl rfl rfl ts41 ta41 (by rfl) (by intro h; cases h)) rfl ?_
  refine DT_fcall0 rfl rfl cl58 (c_atom03 trueN) rfl rfl ?_
  refine DT_ev rfl (EA_move) rfl ?_
  refine DT_ev rfl (EA_build (fs := [(Lay.st [.one, .one, .one, .one]), (Lay.st [.one, .one, .one, .one]), .one]) (zs := [.agg [.one, .one, .one, .one] [.c (.int .i64 0), .c (.string ⟨#[]⟩), .c (.int .i64 0), .c (.slice none 0 0)], .agg [.one, .one, .one, .one] [.c (.int .i64 0), .c (.string ⟨#[]⟩), .c (.int .i64 0), .c (.slice none 0 0)], .c (.string ⟨#[]⟩)]) tz54 rfl tpl54 (.cons rfl rfl (by rfl) (.cons rfl rfl (by rfl) (.cons rfl rfl (by rfl) .nil)))) rfl ?_
  refine DT_allocS rfl tz54 rfl rfl (by kernel_rfl) fun Ca1 ba1 hxa1 hba1 hla1 => ?_
  have hTa1 := hT
  have hT := hT.ext hxa1
  refine DTi.t [0, 1, 2, 3, 4, 5] (os := [_]) (by kernel_rfl) rfl ?_
  refine AL_boxraw (s := 6) (l := (Lay.st [(Lay.st [.one, .one, .one, .one]), (Lay.st [.one, .one, .one, .one]), .one])) (z := .agg [(Lay.st [.one, .one, .one, .one]), (Lay.st [.one, .one, .one, .one]), .one] [.agg [.one, .one, .one, .one] [.c (.int .i64 0), .c (.string ⟨#[]⟩), .c (.int .i64 0), .c (.slice none 0 0)], .agg [.one, .one, .one, .one] [.c (.int .i64 0), .c (.string ⟨#[]⟩), .c (.int .i64 0), .c (.slice none 0 0)], .c (.string ⟨#[]⟩)]) hxa1 rfl hba1 hla1 rfl (fun _ _ _ => VC_cells rfl) _ rfl ?_
  have hT := hTa1
  refine Ys ts54 ?_
  refine Zn hK5 ?_
  refine AC_seq fun _ hK6 => ?_
  refine Zs fun _ hK7 => ?_
  refine YL ts41 ta41 ?_
  refine AL_fcall0 hT rfl cl141 (c_l03Is 4 neck m [a, .mk kb sb mb ksb] neck 2) rfl rfl ?_
  refine Zn hK7 ?_
  refine Zc (fun hc2 => ?_) fun hc2 => ?_
  ·refine Zs fun _ hK8 => ?_
   refine Ya fa41_3 ?_
   refine Yl ts39 ta39 ?_
   refine Yi te39 ts41 ?_
   refine YP ts41 ta41 ?_
   refine Ya fa54_0 ?_
   refine Ys ts41 ?_
   refine Zn hK8 ?_
   refine Zs fun _ hK9 => ?_
   refine Ya fa41_3 ?_
   refine Yl ts39 ta39 ?_
   refine Yi te39 ts41 ?_
   refine YP ts41 ta41 ?_
   refine Ya fa54_1 ?_
   refine Ys ts41 ?_
   refine Zn hK9 ?_
   refine Zs fun _ hK10 => ?_
   refine Ya fa54_1 ?_
   refine Ya fa41_0 ?_
   refine Yl ts3 ta3 ?_
   refine Ze (Ev_eql rfl rfl) ?_
   refine Zn hK10 ?_
   refine Zc (fun hc3 => ?_) fun hc3 => ?_
   ·have hsp := split1 (m := m) (a := a) (b := .mk kb sb mb ksb) (of_decide_eq_true hc3)
    refine AC_region ?_
    refine Ya fa54_1 ?_
    refine YL ts41 ta41 ?_
    refine AL_bD (Lay.st [.one, .one, .one, .one]) rfl te39 ts41 tz41 rfl rfl (by decide) (by decide) (by rfl) rfl ?_
    refine Ze (Ev_buildD (fs := [.one, .one, .one, .one]) (zs := [.c (.int .i64 0), .c (.string ⟨#[]⟩), .c (.int .i64 0), .c (.slice none 0 0)]) tz41 rfl tpl41 (.cons rfl rfl (by rfl) (.cons rfl rfl (by rfl) (.cons rfl rfl (by rfl) .nil))) rfl) ?_
    refine Ya fa54_1 ?_
    refine Ys ts41 ?_
    refine Zn hK6 ?_
    refine AC_seq fun _ hK11 => ?_
    refine Zs fun _ hK12 => ?_
    refine Ya fa54_0 ?_
    refine YL ts41 ta41 ?_
    refine AL_fcall0 hT rfl cl142 (c_l08Head a hba) rfl rfl ?_
    refine Ze (Ev_not rfl) ?_
    refine Zm ?_
    refine Zb 40 (fun hg4 => ?_) fun hg4 => ?_
    ·have hR := clOf_f (f := f) hsp (fun h => by rw [h.2.1] at hg4; cases hg4)
     iterate 4 refine Zg ?_
     refine Zp ?_
     refine Zn hK12 ?_
     refine AC_cond_t rfl ?_
     refine Zs fun _ hK13 => ?_
     refine Ze (Ev_buildD (fs := [LT, LT, .one]) (zs := [zT, zT, .c (.string ⟨#[]⟩)]) tz54 rfl tpl54 .nil rfl) ?_
     refine AL_wk (Wk_conv 46 rfl zC_le ?_)
     refine Ys ts54 ?_
     refine Za ?_
     refine Zn hK13 ?_
     refine AC_ret ?_
     exact ret_ok hdm (.cell rfl rfl rfl rfl rfl rfl ts54 ta54 (by rfl) (by intro h; cases h) (.tmp rfl rfl .nil)) (.cons .d (.cons .d .nil)) (by rw [hR])
    ·have hh : headB a = true := by simpa using hg4
     refine Zt ?_
     refine Ya fa54_1 ?_
     refine Zt ?_
     refine YL ts41 ta41 ?_
     refine Zt ?_
     refine AL_fcall0 hT rfl cl64 (c_specTermOk (.mk 4 callN 0 [.mk kb sb mb ksb]) hbc) rfl rfl ?_
     refine Zt ?_
     refine Ze (Ev_not rfl) ?_
     refine Zp ?_
     refine Zn hK12 ?_
     refine Zc (fun hc5 => ?_) fun hc5 => ?_
     ·have hR := clOf_f (f := f) hsp (fun h => by rw [h.2.2] at hc5; cases hc5)
      refine Zs fun _ hK14 => ?_
      refine Ze (Ev_buildD (fs := [LT, LT, .one]) (zs := [zT, zT, .c (.string ⟨#[]⟩)]) tz54 rfl tpl54 .nil rfl) ?_
      refine AL_wk (Wk_conv 46 rfl zC_le ?_)
      refine Ys ts54 ?_
      refine Za ?_
      refine Zn hK14 ?_
      refine AC_ret ?_
      exact ret_ok hdm (.cell rfl rfl rfl rfl rfl rfl ts54 ta54 (by rfl) (by intro h; cases h) (.tmp rfl rfl .nil)) (.cons .d (.cons .d .nil)) (by rw [hR])
     ·have hR := clOf_t (f := f) h0 hsp hh (by simpa using hc5)
      refine Zk hK11 ?_
      refine Zs fun _ hK15 => ?_
      refine YL ts54 ta54 ?_
      refine Ys ts54 ?_
      refine Za ?_
      refine Zn hK15 ?_
      refine AC_ret ?_
      exact ret_ok hdm (.cell rfl rfl rfl rfl rfl rfl ts54 ta54 (by rfl) (by intro h; cases h) (.tmp rfl rfl .nil)) (.cons (.agg (.cons .d (.cons .d (.cons .d .nil)))) (.cons .d .nil)) (by rw [hR]; rfl)
   ·have hsp := split2 (m := m) (a := a) (b := .mk kb sb mb ksb) (of_decide_eq_false hc3)
    refine Zk hK6 ?_
    refine AC_seq fun _ hK16 => ?_
    refine Zs fun _ hK17 => ?_
    refine Ya fa54_0 ?_
    refine YL ts41 ta41 ?_
    refine AL_fcall0 hT rfl cl142 (c_l08Head a hba) rfl rfl ?_
    refine Ze (Ev_not rfl) ?_
    refine Zm ?_
    refine Zb 40 (fun hg6 => ?_) fun hg6 => ?_
    ·have hR := clOf_f (f := f) hsp (fun h => by rw [h.2.1] at hg6; cases hg6)
     iterate 4 refine Zg ?_
     refine Zp ?_
     refine Zn hK17 ?_
     refine AC_cond_t rfl ?_
     refine Zs fun _ hK18 => ?_
     refine Ze (Ev_buildD (fs := [LT, LT, .one]) (zs := [zT, zT, .c (.string ⟨#[]⟩)]) tz54 rfl tpl54 .nil rfl) ?_
     refine AL_wk (Wk_conv 46 rfl zC_le ?_)
     refine Ys ts54 ?_
     refine Za ?_
     refine Zn hK18 ?_
     refine AC_ret ?_
     exact ret_ok hdm (.cell rfl rfl rfl rfl rfl rfl ts54 ta54 (by rfl) (by intro h; cases h) (.tmp rfl rfl .nil)) (.cons .d (.cons .d .nil)) (by rw [hR])
    ·have hh : headB a = true := by simpa using hg6
     refine Zt ?_
     refine Ya fa54_1 ?_
     refine Zt ?_
     refine YL ts41 ta41 ?_
     refine Zt ?_
     refine AL_fcall0 hT rfl cl64 (c_specTermOk (.mk kb sb mb ksb) hbb) rfl rfl ?_
     refine Zt ?_
     refine Ze (Ev_not rfl) ?_
     refine Zp ?_
     refine Zn hK17 ?_
     refine Zc (fun hc7 => ?_) fun hc7 => ?_
     ·have hR := clOf_f (f := f) hsp (fun h => by rw [h.2.2] at hc7; cases hc7)
      refine Zs fun _ hK19 => ?_
      refine Ze (Ev_buildD (fs := [LT, LT, .one]) (zs := [zT, zT, .c (.string ⟨#[]⟩)]) tz54 rfl tpl54 .nil rfl) ?_
      refine AL_wk (Wk_conv 46 rfl zC_le ?_)
      refine Ys ts54 ?_
      refine Za ?_
      refine Zn hK19 ?_
      refine AC_ret ?_
      exact ret_ok hdm (.cell rfl rfl rfl rfl rfl rfl ts54 ta54 (by rfl) (by intro h; cases h) (.tmp rfl rfl .nil)) (.cons .d (.cons .d .nil)) (by rw [hR])
     ·have hR := clOf_t (f := f) h0 hsp hh (by simpa using hc7)
      refine Zk hK16 ?_
      refine Zs fun _ hK20 => ?_
      refine YL ts54 ta54 ?_
      refine Ys ts54 ?_
      refine Za ?_
      refine Zn hK20 ?_
      refine AC_ret ?_
      exact ret_ok hdm (.cell rfl rfl rfl rfl rfl rfl ts54 ta54 (by rfl) (by intro h; cases h) (.tmp rfl rfl .nil)) (.cons (.agg (.cons .d (.cons .d (.cons .d .nil)))) (.cons .d .nil)) (by rw [hR]; rfl)
  ·exact absurd hc2 (by simp)
set_option maxHeartbeats 2000000 in
set_option maxRecDepth 4000 in
theorem c_clOf2 (k : Int) (s : ByteArray) (m : Int) (ks : List T) (f : ByteArray) (hb : bulk (.mk k s m ks) ≤ 1099511627770) (hno : ruleB k s ks.length = false) : PCall Tryz.prog 112 [inj (.mk k s m ks), .c (.string f)] (· = [injC (clOf (.mk k s m ks) f).1, .c (.bool (clOf (.mk k s m ks) f).2)]) := by
 have hsp := split3 (m := m) hno
 have hbt : bulk (atom0 trueN) ≤ 1099511627776 := by rw [bulk_atom]; decide
 refine PCall_of (n := 48) Tryz.func112 rfl rfl (Nat.le_of_ble_eq_true rfl) fun C hdm hT0 => ?_
 have hT := hT0
 refine Zs fun _ hK1 => ?_
 refine AL_box (Lay.st [.one, .one, .one, .one]) (nf rfl) rfl (by rfl) _ rfl rfl ?_
 refine AL_alloc zo54 _ rfl rfl ?_
 refine Za ?_
 refine Zn hK1 ?_
 refine AC_seq fun _ hK2 => ?_
 refine Zs fun _ hK3 => ?_
 refine YL ts41 ta41 ?_
 refine AL_fcall0 hT rfl cl64 (c_specTermOk (.mk k s m ks) (by omega)) rfl rfl ?_
 refine Ze (Ev_not rfl) ?_
 refine Zn hK3 ?_
 refine Zc (fun hc1 => ?_) fun hc1 => ?_
 ·have h0 : ¬ okT (.mk k s m ks) = true := by simpa using hc1
  have hR := clOf_f (f := f) hsp (fun h => h0 h.1)
  refine Zs fun _ hK4 => ?_
  refine Ze (Ev_buildD (fs := [LT, LT, .one]) (zs := [zT, zT, .c (.string ⟨#[]⟩)]) tz54 rfl tpl54 .nil rfl) ?_
  refine AL_wk (Wk_conv 10 rfl zC_le ?_)
  refine Ys ts54 ?_
  refine Za ?_
  refine Zn hK4 ?_
  refine AC_ret ?_
  exact ret_ok hdm (.cell rfl rfl rfl rfl rfl rfl ts54 ta54 (by rfl) (by intro h; cases h) (.tmp rfl rfl .nil)) (.cons .d (.cons .d .nil)) (by rw [hR])
 ·have h0 : okT (.mk k s m ks) = true := by simpa using hc1
  refine Zk hK2 ?_
  refine AC_seq fun _ hK5 => ?_
  refine AC_draw hT follows [0, 1, 2, 3, 4, 5] (by kernel_rfl) ?_
  refine DT_ev rfl (EA_load_ptr rfl rfl rfl rfl rfl rfl ts41 ta41 (by rfl) (by intro h; cases h)) rfl ?_
  refine DT_fcall0 rfl rfl cl58 (c_atom03 trueN) rfl rfl ?_
  refine DT_ev rfl (EA_move) rfl ?_
  refine DT_ev rfl (EA_build (fs := [(Lay.st [.one, .one, .one, .one]), (Lay.st [.one, .one, .one, .one]), .one]) (zs := [.agg [.one, .one, .one, .one] [.c (.int .i64 0), .c (.string ⟨#[]⟩), .c (.int .i64 0), .c (.slice none 0 0)], .agg [.one, .one, .one, .one] [.c (.int .i64 0), .c (.string ⟨#[]⟩), .c (.int .i64 0), .c (.slice none 0 0)], .c (.string ⟨#[]⟩)]) tz54 rfl tpl54 (.cons rfl rfl (by rfl) (.cons rfl rfl (by rfl) (.cons rfl rfl (by rfl) .nil)))) rfl ?_
  refine DT_allocS rfl tz54 rfl rfl (by kernel_rfl) fun Ca1 ba1 hxa1 hba1 hla1 => ?_
  have hTa1 := hT
  have hT := hT.ext hxa1
  refine DTi.t [0, 1, 2, 3, 4, 5] (os := [_]) (by kernel_rfl) rfl ?_
  refine AL_boxraw (s := 6) (l := (Lay.st [(Lay.st [.one, .one, .one, .one]), (Lay.st [.one, .one, .one, .one]), .one])) (z := .agg [(Lay.st [.one, .one, .one, .one]), (Lay.st [.one, .one, .one, .one]), .one] [.agg [.one, .one, .one, .one] [.c (.int .i64 0), .c (.string ⟨#[]⟩), .c (.int .i64 0), .c (.slice none 0 0)], .agg [.one, .one, .one, .one] [.c (.int .i64 0), .c (.string ⟨#[]⟩), .c (.int .i64 0), .c (.slice none 0 0)], .c (.string ⟨#[]⟩)]) hxa1 rfl hba1 hla1 rfl (fun _ _ _ => VC_cells rfl) _ rfl ?_
  have hT := hTa1
  refine Ys ts54 ?_
  refine Zn hK5 ?_
  refine AC_seq fun _ hK6 => ?_
  refine Zs fun _ hK7 => ?_
  refine YL ts41 ta41 ?_
  refine AL_fcall0 hT rfl cl141 (c_l03Is k s m ks neck 2) rfl rfl ?_
  refine Zn hK7 ?_
  refine Zc (fun hc2 => ?_) fun hc2 => ?_
  ·exact absurd (hno.symm.trans hc2) (by decide)
  ·refine Zk hK6 ?_
   refine AC_seq fun _ hK8 => ?_
   refine Zs fun _ hK9 => ?_
   refine Ya fa54_0 ?_
   refine YL ts41 ta41 ?_
   refine AL_fcall0 hT rfl cl142 (c_l08Head (.mk k s m ks) (by omega)) rfl rfl ?_
   refine Ze (Ev_not rfl) ?_
   refine Zm ?_
   refine Zb 40 (fun hg3 => ?_) fun hg3 => ?_
   ·have hR := clOf_f (f := f) hsp (fun h => by rw [h.2.1] at hg3; cases hg3)
    iterate 4 refine Zg ?_
    refine Zp ?_
    refine Zn hK9 ?_
    refine AC_cond_t rfl ?_
    refine Zs fun _ hK10 => ?_
    refine Ze (Ev_buildD (fs := [LT, LT, .one]) (zs := [zT, zT, .c (.string ⟨#[]⟩)]) tz54 rfl tpl54 .nil rfl) ?_
    refine AL_wk (Wk_conv 46 rfl zC_le ?_)
    refine Ys ts54 ?_
    refine Za ?_
    refine Zn hK10 ?_
    refine AC_ret ?_
    exact ret_ok hdm (.cell rfl rfl rfl rfl rfl rfl ts54 ta54 (by rfl) (by intro h; cases h) (.tmp rfl rfl .nil)) (.cons .d (.cons .d .nil)) (by rw [hR])
   ·have hh : headB (.mk k s m ks) = true := by simpa using hg3
    refine Zt ?_
    refine Ya fa54_1 ?_
    refine Zt ?_
    refine YL ts41 ta41 ?_
    refine Zt ?_
    refine AL_fcall0 hT rfl cl64 (c_specTermOk (atom0 trueN) hbt) rfl rfl ?_
    refine Zt ?_
    refine Ze (Ev_not rfl) ?_
    refine Zp ?_
    refine Zn hK9 ?_
    refine Zc (fun hc4 => ?_) fun hc4 => ?_
    ·have hR := clOf_f (f := f) hsp (fun h => by rw [h.2.2] at hc4; cases hc4)
     refine Zs fun _ hK11 => ?_
     refine Ze (Ev_buildD (fs := [LT, LT, .one]) (zs := [zT, zT, .c (.string ⟨#[]⟩)]) tz54 rfl tpl54 .nil rfl) ?_
     refine AL_wk (Wk_conv 46 rfl zC_le ?_)
     refine Ys ts54 ?_
     refine Za ?_
     refine Zn hK11 ?_
     refine AC_ret ?_
     exact ret_ok hdm (.cell rfl rfl rfl rfl rfl rfl ts54 ta54 (by rfl) (by intro h; cases h) (.tmp rfl rfl .nil)) (.cons .d (.cons .d .nil)) (by rw [hR])
    ·have hR := clOf_t (f := f) h0 hsp hh (by simpa using hc4)
     refine Zk hK8 ?_
     refine Zs fun _ hK12 => ?_
     refine YL ts54 ta54 ?_
     refine Ys ts54 ?_
     refine Za ?_
     refine Zn hK12 ?_
     refine AC_ret ?_
     exact ret_ok hdm (.cell rfl rfl rfl rfl rfl rfl ts54 ta54 (by rfl) (by intro h; cases h) (.tmp rfl rfl .nil)) (.cons (.agg (.cons .d (.cons .d (.cons .d .nil)))) (.cons .d .nil)) (by rw [hR]; rfl)
theorem c_clOfRaw (t : T) (f : ByteArray) (hb : bulk t ≤ 1099511627770) : PCall Tryz.prog 112 [inj t, .c (.string f)] (· = [injC (clOf t f).1, .c (.bool (clOf t f).2)]) := by
 obtain ⟨k, s, m, ks⟩ := t
 cases hr : ruleB k s ks.length with
 | false => exact c_clOf2 k s m ks f hb hr
 | true =>
   have hr2 := hr
   simp only [ruleB, Bool.and_eq_true, decide_eq_true_eq] at hr2
   obtain ⟨⟨rfl, rfl⟩, hl⟩ := hr2
   match ks, hl with
   | [a, .mk kb sb mb ksb], _ => exact c_clOf1 m a kb sb mb ksb f hb
set_option maxHeartbeats 1000000 in
set_option maxRecDepth 4000 in
theorem c_clauseOf (t : T) (f : ByteArray) (hb : bulk t ≤ 1099511627770) : PCall Tryz.prog 84 [inj t, .c (.string f)] (· = [injC (clOf t f).1, .c (.bool (clOf t f).2)]) := by
 refine PCall_of (n := 17) Tryz.func84 rfl rfl (Nat.le_of_ble_eq_true rfl) fun C hdm hT0 => ?_
 have hT := hT0
 refine Zs fun _ hK1 => ?_
 refine AL_box (Lay.st [.one, .one, .one, .one]) (nf rfl) rfl (by simp [Lay.len, Lay.lens]) _ rfl rfl ?_
 refine AL_alloc zo54 _ rfl rfl ?_
 refine Za ?_
 refine Zn hK1 ?_
 refine Zs fun _ hK2 => ?_
 refine YL ts41 ta41 ?_
 refine Zm ?_
 refine AL_fcall0 hT rfl cl112 (c_clOfRaw t f hb) rfl rfl ?_
 refine Zm ?_
 refine Ze (Ev_extract rfl rfl) ?_
 refine Ze (Ev_extract rfl rfl) ?_
 refine AL_alloc zo54 _ rfl rfl ?_
 refine Ys ts54 ?_
 refine Za ?_
 refine Zn hK2 ?_
 refine Zs fun _ hK3 => ?_
 refine YL ts54 ta54 ?_
 refine AL_fcall0 hT rfl cl113 (c_l34Clause (clOf t f).1) rfl rfl ?_
 refine Zm ?_
 refine Ys ts54 ?_
 refine Za ?_
 refine Zn hK3 ?_
 refine AC_ret ?_
 exact ret_ok hdm (.cell rfl rfl rfl rfl rfl rfl ts54 ta54 (by rfl) (by intro h; cases h) (.tmp rfl rfl .nil)) (.cons .d (.cons .d .nil)) rfl
theorem c_readTermR (t : ByteArray) (hs : t.size ≤ 3000) : PCall Tryz.prog 82 [.c (.string t)] (fun ds => ∃ (u : T) (e : D) (b : Bool), ds = [inj u, e, .c (.bool b)] ∧ bulk u ≤ 64 * ((t.size : Int) + 2) ∧ (u, b) = readM t) :=
 (c_readTerm t hs).mono fun ds ⟨e, h⟩ => ⟨_, e, _, h, readM_bulk t hs, rfl⟩
theorem c_clauseOfR (t : T) (f : ByteArray) (hb : bulk t ≤ 1099511627770) : PCall Tryz.prog 84 [inj t, .c (.string f)] (fun ds => ∃ (c : Cl) (b : Bool), ds = [injC c, .c (.bool b)] ∧ bulkC c ≤ bulk t + 5 + f.size ∧ (c, b) = clOf t f) :=
 (c_clauseOf t f hb).mono fun ds h => ⟨_, _, h, clOf_bulk t f, rfl⟩
theorem c_addedR (d : Dbt) (c : Cl) (hl : d.cs.length ≤ 1048576) (ho : d.op.length ≤ 1048576) (hb : bulkD ⟨d.cs ++ [c], d.op⟩ ≤ 1099511627775) : PCall Tryz.prog 85 [injD d, injC c] (fun ds => ∃ (d2 : Dbt) (b : Bool), ds = [injD d2, .c (.bool b)] ∧ (d2, b) = addM d c ∧ bulkD d2 ≤ bulkD d + 1 + bulkC c ∧ d2.cs.length ≤ d.cs.length + 1 ∧ d2.op = d.op) :=
 (c_added d c hl ho hb).mono fun ds h => ⟨_, _, h, rfl, addM_bulk d.cs d.op c, (addM_len d c).1, (addM_len d c).2⟩
set_option maxHeartbeats 1000000 in
set_option maxRecDepth 4000 in
theorem c_l23Lines  : PCall Tryz.prog 80 [] (fun ds => ∃ ls : List ByteArray, ds = [.sl .one (strs ls)] ∧ 0 < ls.length ∧ ∀ s ∈ ls, s.size ≤ 60) := by
 refine PCall_of (n := 2) Tryz.func80 rfl rfl (Nat.le_of_ble_eq_true rfl) fun C hdm hT0 => ?_
 have hT := hT0
 refine Zs fun _ hK1 => ?_
 refine Za ?_
 refine Zn hK1 ?_
 refine Zs fun _ hK2 => ?_
 refine AL_bD .one rfl te25 ts9 tz9 rfl rfl (by decide) (by decide) (by rfl) rfl ?_
 refine Za ?_
 refine Zn hK2 ?_
 refine AC_ret ?_
 exact Zr hdm ⟨[⟨#[97, 32, 58, 45, 32, 98, 44, 32, 92, 43, 32, 99]⟩, ⟨#[98, 32, 58, 45, 32, 100, 32, 59, 32, 101]⟩, ⟨#[99, 32, 58, 45, 32, 99, 97, 108, 108, 40, 100, 41]⟩, ⟨#[100]⟩, ⟨#[101, 32, 58, 45, 32, 40, 102, 32, 45, 62, 32, 103, 32, 59, 32, 104, 41]⟩, ⟨#[102, 32, 58, 45, 32, 92, 43, 32, 97]⟩, ⟨#[103, 32, 58, 45, 32, 99, 97, 116, 99, 104, 40, 120, 44, 32, 95, 44, 32, 121, 41]⟩, ⟨#[104, 32, 58, 45, 32, 104]⟩, ⟨#[107, 40, 88, 41, 32, 58, 45, 32, 112, 40, 88, 41, 44, 32, 92, 43, 32, 107, 40, 88, 41]⟩, ⟨#[120]⟩, ⟨#[121, 32, 58, 45, 32, 88, 44, 32, 99, 97, 108, 108, 40, 88, 41]⟩, ⟨#[109, 32, 58, 45, 32, 92, 43, 32, 92, 43, 32, 100, 44, 32, 99]⟩], rfl, by decide, by decide⟩
set_option maxHeartbeats 1000000 in
set_option maxRecDepth 4000 in
theorem c_l08Lines  : PCall Tryz.prog 81 [] (fun ds => ∃ ls : List ByteArray, ds = [.sl .one (strs ls)] ∧ (0 < ls.length ∧ ∀ s ∈ ls, s.size ≤ 60) ∧ ls.length = 29 ∧ ls[0]? = some ⟨#[112, 40, 97, 41]⟩) := by
 refine PCall_of (n := 2) Tryz.func81 rfl rfl (Nat.le_of_ble_eq_true rfl) fun C hdm hT0 => ?_
 have hT := hT0
 refine Zs fun _ hK1 => ?_
 refine Za ?_
 refine Zn hK1 ?_
 refine Zs fun _ hK2 => ?_
 refine AL_bD .one rfl te25 ts9 tz9 rfl rfl (by decide) (by decide) (by rfl) rfl ?_
 refine Za ?_
 refine Zn hK2 ?_
 refine AC_ret ?_
 exact Zr hdm ⟨[⟨#[112, 40, 97, 41]⟩, ⟨#[112, 40, 98, 41]⟩, ⟨#[112, 40, 99, 41]⟩, ⟨#[113, 40, 88, 41, 32, 58, 45, 32, 112, 40, 88, 41]⟩, ⟨#[113, 40, 122, 41]⟩, ⟨#[114, 40, 88, 44, 32, 89, 41, 32, 58, 45, 32, 112, 40, 88, 41, 44, 32, 113, 40, 89, 41]⟩, ⟨#[97, 112, 112, 40, 91, 93, 44, 32, 76, 44, 32, 76, 41]⟩, ⟨#[97, 112, 112, 40, 91, 72, 124, 84, 93, 44, 32, 76, 44, 32, 91, 72, 124, 82, 93, 41, 32, 58, 45, 32, 97, 112, 112, 40, 84, 44, 32, 76, 44, 32, 82, 41]⟩, ⟨#[108, 101, 110, 40, 91, 93, 44, 32, 48, 41]⟩, ⟨#[108, 101, 110, 40, 91, 95, 124, 84, 93, 44, 32, 78, 41, 32, 58, 45, 32, 108, 101, 110, 40, 84, 44, 32, 77, 41, 44, 32, 78, 32, 105, 115, 32, 77, 32, 43, 32, 49]⟩, ⟨#[115, 40, 88, 41, 32, 58, 45, 32, 112, 40, 88, 41, 44, 32, 33]⟩, ⟨#[115, 40, 122, 41]⟩, ⟨#[116, 40, 88, 41, 32, 58, 45, 32, 40, 112, 40, 88, 41, 32, 45, 62, 32, 116, 114, 117, 101, 32, 59, 32, 88, 32, 61, 32, 110, 111, 110, 101, 41]⟩, ⟨#[117, 40, 88, 41, 32, 58, 45, 32, 92, 43, 32, 112, 40, 88, 41]⟩, ⟨#[119, 40, 88, 41, 32, 58, 45, 32, 112, 40, 88, 41, 44, 32, 119, 114, 105, 116, 101, 40, 88, 41]⟩, ⟨#[99, 40, 88, 41, 32, 58, 45, 32, 99, 97, 116, 99, 104, 40, 112, 40, 88, 41, 44, 32, 95, 44, 32, 116, 114, 117, 101, 41]⟩, ⟨#[101, 40, 88, 41, 32, 58, 45, 32, 99, 97, 116, 99, 104, 40, 116, 104, 114, 111, 119, 40, 88, 41, 44, 32, 89, 44, 32, 119, 114, 105, 116, 101, 40, 89, 41, 41]⟩, ⟨#[110, 40, 88, 41, 32, 58, 45, 32, 88, 32, 105, 115, 32, 51, 32, 47, 47, 32, 48]⟩, ⟨#[109, 40, 88, 41, 32, 58, 45, 32, 99, 97, 116, 99, 104, 40, 110, 40, 88, 41, 44, 32, 101, 114, 114, 111, 114, 40, 69, 44, 32, 95, 41, 44, 32, 40, 88, 32, 61, 32, 69, 41, 41]⟩, ⟨#[97, 100, 100, 40, 88, 41, 32, 58, 45, 32, 97, 115, 115, 101, 114, 116, 122, 40, 112, 40, 88, 41, 41]⟩, ⟨#[100, 101, 108, 40, 88, 41, 32, 58, 45, 32, 114, 101, 116, 114, 97, 99, 116, 40, 112, 40, 88, 41, 41]⟩, ⟨#[108, 111, 111, 112, 32, 58, 45, 32, 108, 111, 111, 112]⟩, ⟨#[118, 40, 88, 41, 32, 58, 45, 32, 99, 97, 108, 108, 40, 112, 44, 32, 88, 41]⟩, ⟨#[100, 40, 88, 44, 32, 89, 41, 32, 58, 45, 32, 88, 32, 61, 32, 89, 32, 59, 32, 89, 32, 61, 32, 98]⟩, ⟨#[103, 40, 102, 40, 88, 41, 44, 32, 88, 41]⟩, ⟨#[103, 40, 104, 40, 88, 41, 44, 32, 88, 41]⟩, ⟨#[103, 40, 49, 44, 32, 111, 110, 101, 41]⟩, ⟨#[107, 40, 88, 41, 32, 58, 45, 32, 117, 110, 107, 110, 111, 119, 110, 40, 88, 41]⟩, ⟨#[121, 40, 88, 41, 32, 58, 45, 32, 112, 40, 88, 41, 44, 32, 97, 115, 115, 101, 114, 116, 122, 40, 112, 40, 100, 41, 41, 44, 32, 88, 32, 61, 32, 98]⟩], rfl, ⟨by decide, by decide⟩, rfl, rfl⟩
set_option maxHeartbeats 4000000 in
set_option maxRecDepth 4000 in
theorem c_l23Db  : DCall Tryz.prog 39 [] (fun r => ∃ d : Dbt, r = injD d ∧ bulkD d ≤ 300000 ∧ d.cs.length ≤ 12 ∧ d.op = []) := by
 refine DCall_of (n := 48) Tryz.func39 rfl rfl (Nat.le_of_ble_eq_true rfl) fun C0 b bs hdm hbl hT hcu => ?_
 have hM := Mk.refl C0 [b]
 refine Zs fun _ hK1 => ?_
 refine AL_alloc zo27 _ rfl rfl ?_
 refine Zn hK1 ?_
 refine Zs fun _ hK2 => ?_
 refine Ze (Ev_buildD (fs := [.one, .one]) (zs := [.c (.slice none 0 0), .c (.slice none 0 0)]) tz27 rfl tpl27 .nil rfl) ?_
 refine AL_wk (Wk_conv 11 rfl zD_le ?_)
 refine AL_alloc zo27 _ rfl rfl ?_
 refine Ys ts27 ?_
 refine Zn hK2 ?_
 refine Zs fun _ hK3 => ?_
 refine AL_pcall0 hT rfl cl80 c_l23Lines rfl rfl ?_
 rintro _ ⟨lsA, rfl, hA0, hAz⟩
 refine Za ?_
 refine Zn hK3 ?_
 refine AC_seq fun _ hK4 => ?_
 refine Zs fun _ hK5 => ?_
 refine Zm ?_
 refine AL_dcall hT hcu hbl rfl cl56 (c_onceD 2 (by omega)) rfl rfl rfl fun C1 r1 hR1 hM1 hcu hT => ?_
 have hM := hM.trans hM1 (fun c hc _ => hc)
 obtain ⟨x1, rfl⟩ := hR1
 refine Zn hK5 ?_
 refine Zc (fun hc1 => ?_) fun hc1 => ?_
 ·refine AC_region ?_
  refine AL_pcall0 hT rfl cl81 c_l08Lines rfl rfl ?_
  rintro _ ⟨lsB, rfl, ⟨hB0, hBz⟩, hB1, hB2⟩
  refine Exists.elim (show ∃ ls : List ByteArray, ls = lsB from ⟨_, rfl⟩) fun ls hls => ?_
  have hl0 : 0 < ls.length := by rw [hls]; exact hB0
  have hlz : ∀ s ∈ ls, s.size ≤ 60 := by rw [hls]; exact hBz
  refine Za ?_
  refine Zn hK4 ?_
  refine AC_seq fun _ hK6 => ?_
  refine Zs fun _ hK7 => ?_
  refine Za ?_
  refine Zn hK7 ?_
  refine AC_block ?_
  refine AC_loopX (Nat × Dbt) (fun q => [(5, i64 ((q.1 : Nat) : Int)), (4, .d (.sl .one (strs ls)))]) (fun q => [some ⟨27, LD, [.d zDb]⟩, some ⟨27, LD, [.d (injD q.2)]⟩]) (fun q => 13 - q.1) (fun C q => CurC C b bs ∧ Mk C0 [b] C ∧ CT Tryz.prog C ∧ (q.1 ≤ 12 ∧ bulkD q.2 ≤ 20000 * (q.1 : Int) ∧ q.2.cs.length ≤ q.1 ∧ q.2.op = [])) [0, 2, 3] ?_ ?_
  ·exact enterX (0, ⟨[], []⟩) [some 0, some 1] rfl rfl ⟨hcu, hM, hT, Nat.zero_le _, by decide, Nat.zero_le _, rfl⟩ (Bx (.cons (.rd .d) .nil) (Bx (.cons (.rd .d) .nil) BxTo_nil)) (SlTo_cons (by exact .rd .d) (SlTo_cons (by (rw [hls]; exact .rd .d)) Sl_))
  rintro CL ⟨j, ⟨cs, op⟩⟩ ⟨hcu, hM, hT, hj, hbd, hcl, hop⟩
  simp only at hj hbd hcl hop
  refine AC_seq fun _ hK8 => ?_
  refine Zs fun _ hK9 => ?_
  iterate 2 refine Zm ?_
  refine AL_dcall hT hcu hbl rfl cl59 (c_below 10 (by omega)) rfl rfl rfl fun C2 r2 hR2 hM2 hcu hT => ?_
  have hM := hM.trans hM2 (fun c hc _ => hc)
  obtain ⟨x0, rfl, hx0, hy0⟩ := hR2
  refine Ze (Ev_add rfl rfl _ (wrap_id (by omega) (by omega))) ?_
  refine Ze (Ev_lss rfl rfl) ?_
  refine Zn hK9 ?_
  refine Zc (fun hc2 => ?_) fun hc2 => ?_
  ·have hj3 : j < 12 := by have := of_decide_eq_true hc2; omega
   have h3s : (⟨#[111, 110, 101]⟩ : ByteArray).size = 3 := rfl
   refine Zk hK8 ?_
   refine AC_seq fun _ hK10 => ?_
   refine AC_block ?_
   refine Zs fun _ hK11 => ?_
   iterate 2 refine Zm ?_
   refine AL_dcall hT hcu hbl rfl cl83 (c_pick ls hl0) rfl rfl rfl fun C3 r3 hR3 hM3 hcu hT => ?_
   have hM := hM.trans hM3 (fun c hc _ => hc)
   obtain ⟨s0, hs0, rfl⟩ := hR3
   have hz0 := hlz s0 hs0
   have h2s : (⟨#[32, 46]⟩ : ByteArray).size = 2 := rfl
   have hsz : (s0 ++ ⟨#[32, 46]⟩).size ≤ 62 := by rw [ByteArray.size_append]; omega
   refine Ze (Ev_sadd rfl rfl (by omega)) ?_
   refine AL_pcall0 hT rfl cl82 (c_readTermR (s0 ++ ⟨#[32, 46]⟩) (by omega)) rfl rfl ?_
   rintro _ ⟨t9, e9, b9, rfl, hbt, hr9⟩
   refine Zm ?_
   refine Ze (Ev_extract rfl rfl) ?_
   refine Ze (Ev_extract rfl rfl) ?_
   refine Ze (Ev_extract rfl rfl) ?_
   refine AL_alloc zo41 _ rfl rfl ?_
   refine Ys ts41 ?_
   iterate 2 refine Za ?_
   refine Zn hK11 ?_
   refine Zs fun _ hK12 => ?_
   refine YL ts41 ta41 ?_
   refine AL_pcall0 hT rfl cl84 (c_clauseOfR t9 ⟨#[111, 110, 101]⟩ (by omega)) rfl rfl ?_
   rintro _ ⟨⟨ch, cb, cf⟩, bc, rfl, hbc, hc9⟩
   refine Zm ?_
   refine Ze (Ev_extract rfl rfl) ?_
   refine Ze (Ev_extract rfl rfl) ?_
   refine AL_alloc zo54 _ rfl rfl ?_
   refine Ys ts54 ?_
   refine Za ?_
   refine Zn hK12 ?_
   refine Zs fun _ hK13 => ?_
   iterate 2 refine Zm ?_
   refine Zb 38 (fun hg3 => ?_) fun hg3 => ?_
   ·refine Zt ?_
    refine Zm ?_
    refine Zp ?_
    refine Zn hK13 ?_
    refine Zc (fun hc4 => ?_) fun hc4 => ?_
    ·refine AC_region ?_
     refine YL ts27 ta27 ?_
     refine YL ts54 ta54 ?_
     refine AL_pcall0 hT rfl cl85 (c_addedR ⟨cs, op⟩ ⟨ch, cb, cf⟩ (by show cs.length ≤ 1048576; omega) (by show op.length ≤ 1048576; rw [hop]; decide) (by show bulkD ⟨cs ++ [⟨ch, cb, cf⟩], op⟩ ≤ _; rw [bulkD_app]; omega)) rfl rfl ?_
     rintro _ ⟨⟨cs2, op2⟩, bd, rfl, ha9, hbd2, hcl2, hop2⟩
     refine Zm ?_
     refine Ze (Ev_extract rfl rfl) ?_
     refine Ze (Ev_extract rfl rfl) ?_
     refine Ys ts27 ?_
     refine Zn hK10 ?_
     refine AC_region ?_
     refine Zm ?_
     refine Ze (Ev_add rfl rfl _ (wrap_id (by omega) (by omega))) ?_
     refine Za ?_
     refine AL_nil ?_
     refine closeX (j + 1, ⟨cs2, op2⟩) [some 0, some 1] rfl rfl (by show 13 - (j + 1) < 13 - j; omega) ⟨hcu, hM, hT, by show j + 1 ≤ 12; omega, by show bulkD ⟨cs2, op2⟩ ≤ 20000 * ((j + 1 : Nat) : Int); omega, by show cs2.length ≤ j + 1; simp only at hcl2; omega, hop2.trans hop⟩ (Bx (.cons (.rd .d) .nil) (Bx (.cons (.rd .d) .nil) BxTo_nil)) Sl_
    ·refine Zk hK10 ?_
     refine AC_region ?_
     refine Zm ?_
     refine Ze (Ev_add rfl rfl _ (wrap_id (by omega) (by omega))) ?_
     refine Za ?_
     refine AL_nil ?_
     refine closeX (j + 1, ⟨cs, op⟩) [some 0, some 1] rfl rfl (by show 13 - (j + 1) < 13 - j; omega) ⟨hcu, hM, hT, by show j + 1 ≤ 12; omega, by show bulkD ⟨cs, op⟩ ≤ 20000 * ((j + 1 : Nat) : Int); omega, by show cs.length ≤ j + 1; omega, hop⟩ (Bx (.cons (.rd .d) .nil) (Bx (.cons (.rd .d) .nil) BxTo_nil)) Sl_
   ·refine Zg ?_
    refine Zp ?_
    refine Zn hK13 ?_
    refine AC_cond_f rfl ?_
    refine Zk hK10 ?_
    refine AC_region ?_
    refine Zm ?_
    refine Ze (Ev_add rfl rfl _ (wrap_id (by omega) (by omega))) ?_
    refine Za ?_
    refine AL_nil ?_
    refine closeX (j + 1, ⟨cs, op⟩) [some 0, some 1] rfl rfl (by show 13 - (j + 1) < 13 - j; omega) ⟨hcu, hM, hT, by show j + 1 ≤ 12; omega, by show bulkD ⟨cs, op⟩ ≤ 20000 * ((j + 1 : Nat) : Int); omega, by show cs.length ≤ j + 1; omega, hop⟩ (Bx (.cons (.rd .d) .nil) (Bx (.cons (.rd .d) .nil) BxTo_nil)) Sl_
  ·refine Zx hK6 ?_
   refine Zs fun _ hK14 => ?_
   refine YL ts27 ta27 ?_
   refine Ys ts27 ?_
   refine Zn hK14 ?_
   refine AC_ret ?_
   exact retd_ok hM hcu hdm (.cell rfl rfl rfl rfl rfl rfl ts27 ta27 (by rfl) (by intro h; cases h) .nil) .d ⟨⟨cs, op⟩, rfl, by omega, by show cs.length ≤ 12; omega, hop⟩
 ·refine Exists.elim (show ∃ ls : List ByteArray, ls = lsA from ⟨_, rfl⟩) fun ls hls => ?_
  have hl0 : 0 < ls.length := by rw [hls]; exact hA0
  have hlz : ∀ s ∈ ls, s.size ≤ 60 := by rw [hls]; exact hAz
  refine Zk hK4 ?_
  refine AC_seq fun _ hK15 => ?_
  refine Zs fun _ hK16 => ?_
  refine Za ?_
  refine Zn hK16 ?_
  refine AC_block ?_
  refine AC_loopX (Nat × Dbt) (fun q => [(5, i64 ((q.1 : Nat) : Int)), (4, .d (.sl .one (strs ls)))]) (fun q => [some ⟨27, LD, [.d zDb]⟩, some ⟨27, LD, [.d (injD q.2)]⟩]) (fun q => 13 - q.1) (fun C q => CurC C b bs ∧ Mk C0 [b] C ∧ CT Tryz.prog C ∧ (q.1 ≤ 12 ∧ bulkD q.2 ≤ 20000 * (q.1 : Int) ∧ q.2.cs.length ≤ q.1 ∧ q.2.op = [])) [0, 2, 3] ?_ ?_
  ·exact enterX (0, ⟨[], []⟩) [some 0, some 1] rfl rfl ⟨hcu, hM, hT, Nat.zero_le _, by decide, Nat.zero_le _, rfl⟩ (Bx (.cons (.rd .d) .nil) (Bx (.cons (.rd .d) .nil) BxTo_nil)) (SlTo_cons (by exact .rd .d) (SlTo_cons (by (rw [hls]; exact .rd .d)) Sl_))
  rintro CL ⟨j, ⟨cs, op⟩⟩ ⟨hcu, hM, hT, hj, hbd, hcl, hop⟩
  simp only at hj hbd hcl hop
  refine AC_seq fun _ hK17 => ?_
  refine Zs fun _ hK18 => ?_
  iterate 2 refine Zm ?_
  refine AL_dcall hT hcu hbl rfl cl59 (c_below 10 (by omega)) rfl rfl rfl fun C4 r4 hR4 hM4 hcu hT => ?_
  have hM := hM.trans hM4 (fun c hc _ => hc)
  obtain ⟨x0, rfl, hx0, hy0⟩ := hR4
  refine Ze (Ev_add rfl rfl _ (wrap_id (by omega) (by omega))) ?_
  refine Ze (Ev_lss rfl rfl) ?_
  refine Zn hK18 ?_
  refine Zc (fun hc5 => ?_) fun hc5 => ?_
  ·have hj3 : j < 12 := by have := of_decide_eq_true hc5; omega
   have h3s : (⟨#[111, 110, 101]⟩ : ByteArray).size = 3 := rfl
   refine Zk hK17 ?_
   refine AC_seq fun _ hK19 => ?_
   refine AC_block ?_
   refine Zs fun _ hK20 => ?_
   iterate 2 refine Zm ?_
   refine AL_dcall hT hcu hbl rfl cl83 (c_pick ls hl0) rfl rfl rfl fun C5 r5 hR5 hM5 hcu hT => ?_
   have hM := hM.trans hM5 (fun c hc _ => hc)
   obtain ⟨s0, hs0, rfl⟩ := hR5
   have hz0 := hlz s0 hs0
   have h2s : (⟨#[32, 46]⟩ : ByteArray).size = 2 := rfl
   have hsz : (s0 ++ ⟨#[32, 46]⟩).size ≤ 62 := by rw [ByteArray.size_append]; omega
   refine Ze (Ev_sadd rfl rfl (by omega)) ?_
   refine AL_pcall0 hT rfl cl82 (c_readTermR (s0 ++ ⟨#[32, 46]⟩) (by omega)) rfl rfl ?_
   rintro _ ⟨t9, e9, b9, rfl, hbt, hr9⟩
   refine Zm ?_
   refine Ze (Ev_extract rfl rfl) ?_
   refine Ze (Ev_extract rfl rfl) ?_
   refine Ze (Ev_extract rfl rfl) ?_
   refine AL_alloc zo41 _ rfl rfl ?_
   refine Ys ts41 ?_
   iterate 2 refine Za ?_
   refine Zn hK20 ?_
   refine Zs fun _ hK21 => ?_
   refine YL ts41 ta41 ?_
   refine AL_pcall0 hT rfl cl84 (c_clauseOfR t9 ⟨#[111, 110, 101]⟩ (by omega)) rfl rfl ?_
   rintro _ ⟨⟨ch, cb, cf⟩, bc, rfl, hbc, hc9⟩
   refine Zm ?_
   refine Ze (Ev_extract rfl rfl) ?_
   refine Ze (Ev_extract rfl rfl) ?_
   refine AL_alloc zo54 _ rfl rfl ?_
   refine Ys ts54 ?_
   refine Za ?_
   refine Zn hK21 ?_
   refine Zs fun _ hK22 => ?_
   iterate 2 refine Zm ?_
   refine Zb 38 (fun hg6 => ?_) fun hg6 => ?_
   ·refine Zt ?_
    refine Zm ?_
    refine Zp ?_
    refine Zn hK22 ?_
    refine Zc (fun hc7 => ?_) fun hc7 => ?_
    ·refine AC_region ?_
     refine YL ts27 ta27 ?_
     refine YL ts54 ta54 ?_
     refine AL_pcall0 hT rfl cl85 (c_addedR ⟨cs, op⟩ ⟨ch, cb, cf⟩ (by show cs.length ≤ 1048576; omega) (by show op.length ≤ 1048576; rw [hop]; decide) (by show bulkD ⟨cs ++ [⟨ch, cb, cf⟩], op⟩ ≤ _; rw [bulkD_app]; omega)) rfl rfl ?_
     rintro _ ⟨⟨cs2, op2⟩, bd, rfl, ha9, hbd2, hcl2, hop2⟩
     refine Zm ?_
     refine Ze (Ev_extract rfl rfl) ?_
     refine Ze (Ev_extract rfl rfl) ?_
     refine Ys ts27 ?_
     refine Zn hK19 ?_
     refine AC_region ?_
     refine Zm ?_
     refine Ze (Ev_add rfl rfl _ (wrap_id (by omega) (by omega))) ?_
     refine Za ?_
     refine AL_nil ?_
     refine closeX (j + 1, ⟨cs2, op2⟩) [some 0, some 1] rfl rfl (by show 13 - (j + 1) < 13 - j; omega) ⟨hcu, hM, hT, by show j + 1 ≤ 12; omega, by show bulkD ⟨cs2, op2⟩ ≤ 20000 * ((j + 1 : Nat) : Int); omega, by show cs2.length ≤ j + 1; simp only at hcl2; omega, hop2.trans hop⟩ (Bx (.cons (.rd .d) .nil) (Bx (.cons (.rd .d) .nil) BxTo_nil)) Sl_
    ·refine Zk hK19 ?_
     refine AC_region ?_
     refine Zm ?_
     refine Ze (Ev_add rfl rfl _ (wrap_id (by omega) (by omega))) ?_
     refine Za ?_
     refine AL_nil ?_
     refine closeX (j + 1, ⟨cs, op⟩) [some 0, some 1] rfl rfl (by show 13 - (j + 1) < 13 - j; omega) ⟨hcu, hM, hT, by show j + 1 ≤ 12; omega, by show bulkD ⟨cs, op⟩ ≤ 20000 * ((j + 1 : Nat) : Int); omega, by show cs.length ≤ j + 1; omega, hop⟩ (Bx (.cons (.rd .d) .nil) (Bx (.cons (.rd .d) .nil) BxTo_nil)) Sl_
   ·refine Zg ?_
    refine Zp ?_
    refine Zn hK22 ?_
    refine AC_cond_f rfl ?_
    refine Zk hK19 ?_
    refine AC_region ?_
    refine Zm ?_
    refine Ze (Ev_add rfl rfl _ (wrap_id (by omega) (by omega))) ?_
    refine Za ?_
    refine AL_nil ?_
    refine closeX (j + 1, ⟨cs, op⟩) [some 0, some 1] rfl rfl (by show 13 - (j + 1) < 13 - j; omega) ⟨hcu, hM, hT, by show j + 1 ≤ 12; omega, by show bulkD ⟨cs, op⟩ ≤ 20000 * ((j + 1 : Nat) : Int); omega, by show cs.length ≤ j + 1; omega, hop⟩ (Bx (.cons (.rd .d) .nil) (Bx (.cons (.rd .d) .nil) BxTo_nil)) Sl_
  ·refine Zx hK15 ?_
   refine Zs fun _ hK23 => ?_
   refine YL ts27 ta27 ?_
   refine Ys ts27 ?_
   refine Zn hK23 ?_
   refine AC_ret ?_
   exact retd_ok hM hcu hdm (.cell rfl rfl rfl rfl rfl rfl ts27 ta27 (by rfl) (by intro h; cases h) .nil) .d ⟨⟨cs, op⟩, rfl, by omega, by show cs.length ≤ 12; omega, hop⟩
end Go.Proofs.YtjgliechbnommaaGreatDoor
set_option linter.unusedVariables false
set_option linter.unusedSimpArgs false
namespace Go.Proofs.YtjgliechbnommaaGreatDoor
open Go.Eng
set_option maxHeartbeats 4000000 in
set_option maxRecDepth 4000 in
theorem c_any03  : DCall Tryz.prog 57 [] (fun r => ∃ t : T, r = inj t ∧ bulk t ≤ 1000 ∧ (hgt t ≤ 4 ∨ (pairB t = false ∧ nilB t = false))) := by
 refine DCall_of (n := 48) Tryz.func57 rfl rfl (Nat.le_of_ble_eq_true rfl) fun C0 b bs hdm hbl hT hcu => ?_
 have hM := Mk.refl C0 [b]
 refine Zs fun _ hK1 => ?_
 refine AL_alloc zo41 _ rfl rfl ?_
 refine Zn hK1 ?_
 refine Zs fun _ hK2 => ?_
 refine Zm ?_
 refine AL_dcall hT hcu hbl rfl cl59 (c_below 12 (by omega)) rfl rfl rfl fun C1 r1 hR1 hM1 hcu hT => ?_
 have hM := hM.trans hM1 (fun c hc _ => hc)
 obtain ⟨x1, rfl, hx1, hy1⟩ := hR1
 refine Za ?_
 refine Zn hK2 ?_
 refine Zs fun _ hK3 => ?_
 refine Zm ?_
 refine AL_dcall hT hcu hbl rfl cl59 (c_below 60 (by omega)) rfl rfl rfl fun C2 r2 hR2 hM2 hcu hT => ?_
 have hM := hM.trans hM2 (fun c hc _ => hc)
 obtain ⟨x2, rfl, hx2, hy2⟩ := hR2
 refine Za ?_
 refine Zn hK3 ?_
 refine Zs fun _ hK4 => ?_
 refine Zm ?_
 refine AL_dcall hT hcu hbl rfl cl93 (c_made 3 (by omega) 3 rfl) rfl rfl rfl fun C3 r3 hR3 hM3 hcu hT => ?_
 have hM := hM.trans hM3 (fun c hc _ => hc)
 obtain ⟨⟨tk, ts, tm, tks⟩, rfl, hb3, hh3⟩ := hR3
 rw [pw3] at hb3
 have h40 := Int.tmod_nonneg 4 hx2
 have h41 := Int.tmod_lt_of_pos x2 (show (0 : Int) < 4 by omega)
 have h30 := Int.tmod_nonneg 3 hx2
 have h31 := Int.tmod_lt_of_pos x2 (show (0 : Int) < 3 by omega)
 refine AL_alloc zo41 _ rfl rfl ?_
 refine Ys ts41 ?_
 refine Zn hK4 ?_
 refine AC_seq fun _ hK5 => ?_
 refine Zs fun _ hK6 => ?_
 refine Zm ?_
 refine Zn hK6 ?_
 refine AC_block ?_
 refine Zs fun _ hK7 => ?_
 refine Ze (Ev_eql rfl rfl) ?_
 refine Za ?_
 refine Zn hK7 ?_
 refine Zc (fun hc1 => ?_) fun hc1 => ?_
 ·refine AC_region ?_
  refine Zm ?_
  refine Ze (Ev_rem rfl rfl (by decide)) ?_
  refine Ya fa41_0 ?_
  refine Ys ts3 ?_
  refine Zn hK5 ?_
  refine Zs fun _ hK8 => ?_
  refine YL ts41 ta41 ?_
  refine Ys ts41 ?_
  refine Zn hK8 ?_
  refine AC_ret ?_
  exact retd_ok hM hcu hdm (.cell rfl rfl rfl rfl rfl rfl ts41 ta41 rfl (by intro h; cases h) .nil) (.agg (.cons .d (.cons .d (.cons .d (.cons .d .nil))))) ⟨.mk (x2.tmod 6) ts tm tks, rfl, by simp only [bulk, bulkS_eq] at hb3 ⊢; omega, .inl (by simp only [hgt] at hh3 ⊢; omega)⟩
 ·refine Zs fun _ hK9 => ?_
  refine Ze (Ev_eql rfl rfl) ?_
  refine Za ?_
  refine Zn hK9 ?_
  refine Zc (fun hc2 => ?_) fun hc2 => ?_
  ·obtain ⟨w, hw, hwz⟩ : ∃ w : ByteArray, [D.c (.string ⟨#[]⟩), .c (.string ⟨#[97,32,98]⟩), .c (.string ⟨#[39]⟩), .c (.string ⟨#[97, 97, 97, 97, 97, 97, 97, 97, 97, 97, 97, 97, 97, 97, 97, 97, 97, 97, 97, 97, 97]⟩)][(x2.tmod 4).toNat]? = some (.c (.string w)) ∧ w.size ≤ 21 := by
    have hq : (x2.tmod 4).toNat < 4 := by omega
    generalize (x2.tmod 4).toNat = q at hq ⊢
    match q, hq with
    | 0, _ => exact ⟨_, rfl, by decide⟩
    | 1, _ => exact ⟨_, rfl, by decide⟩
    | 2, _ => exact ⟨_, rfl, by decide⟩
    | 3, _ => exact ⟨_, rfl, by decide⟩
   refine AC_region ?_
   refine AL_bD .one rfl te25 ts9 tz9 rfl rfl (by decide) (by decide) (by rfl) rfl ?_
   refine Zm ?_
   refine Ze (Ev_rem rfl rfl (by decide)) ?_
   refine Yi te25 ts9 ?_
   refine Yp ts9 ta9 ?_
   refine Ya fa41_1 ?_
   refine Ys ts9 ?_
   refine Zn hK5 ?_
   refine Zs fun _ hK10 => ?_
   refine YL ts41 ta41 ?_
   refine Ys ts41 ?_
   refine Zn hK10 ?_
   refine AC_ret ?_
   exact retd_ok hM hcu hdm (.cell rfl rfl rfl rfl rfl rfl ts41 ta41 rfl (by intro h; cases h) .nil) (.agg (.cons .d (.cons .d (.cons .d (.cons .d .nil))))) ⟨.mk tk w tm tks, rfl, by simp only [bulk, bulkS_eq] at hb3 ⊢; omega, .inl (by simp only [hgt] at hh3 ⊢; omega)⟩
  ·refine Zs fun _ hK11 => ?_
   refine Ze (Ev_eql rfl rfl) ?_
   refine Za ?_
   refine Zn hK11 ?_
   refine Zc (fun hc3 => ?_) fun hc3 => ?_
   ·obtain ⟨w, hw⟩ : ∃ w : Int, [D.c (.int .i64 (-1)), .c (.int .i64 100000), .c (.int .i64 1000000000)][(x2.tmod 3).toNat]? = some (.c (.int .i64 w)) := by
     have hq : (x2.tmod 3).toNat < 3 := by omega
     generalize (x2.tmod 3).toNat = q at hq ⊢
     match q, hq with
     | 0, _ => exact ⟨_, rfl⟩
     | 1, _ => exact ⟨_, rfl⟩
     | 2, _ => exact ⟨_, rfl⟩
    refine AC_region ?_
    refine AL_bD .one rfl te30 ts3 tz3 rfl rfl (by decide) (by decide) (by rfl) rfl ?_
    refine Zm ?_
    refine Ze (Ev_rem rfl rfl (by decide)) ?_
    refine Yi te30 ts3 ?_
    refine Yp ts3 ta3 ?_
    refine Ya fa41_2 ?_
    refine Ys ts3 ?_
    refine Zn hK5 ?_
    refine Zs fun _ hK12 => ?_
    refine YL ts41 ta41 ?_
    refine Ys ts41 ?_
    refine Zn hK12 ?_
    refine AC_ret ?_
    exact retd_ok hM hcu hdm (.cell rfl rfl rfl rfl rfl rfl ts41 ta41 rfl (by intro h; cases h) .nil) (.agg (.cons .d (.cons .d (.cons .d (.cons .d .nil))))) ⟨.mk tk ts w tks, rfl, by simp only [bulk, bulkS_eq] at hb3 ⊢; omega, .inl (by simp only [hgt] at hh3 ⊢; omega)⟩
   ·refine Zs fun _ hK13 => ?_
    refine Ze (Ev_eql rfl rfl) ?_
    refine Za ?_
    refine Zn hK13 ?_
    refine Zc (fun hc4 => ?_) fun hc4 => ?_
    ·refine Zs fun _ hK14 => ?_
     refine Za ?_
     refine Zn hK14 ?_
     refine AC_block ?_
     refine AC_loopS [2, 4, 5] (Nat) (fun i => [(6, i64 ((i : Nat) : Int))]) (fun i => [some ⟨41, LT, [.d zT]⟩, some ⟨41, LT, [.d (inj (wrapN i (.mk tk ts tm tks)))]⟩]) (fun i => 42 - i) (fun i => i ≤ 42) (0) ?_ ?_ ?_
     ·exact enterS [some 0, some 1] rfl rfl (Bx (.cons (.rd .d) .nil) (Bx (.cons (.rd .d) .nil) BxTo_nil)) Sl_
     ·exact Nat.zero_le _
     intro i hi
     refine AC_seq fun _ hK15 => ?_
     refine Zs fun _ hK16 => ?_
     iterate 2 refine Zm ?_
     refine Ze (Ev_rem rfl rfl (by decide)) ?_
     refine Ze (Ev_add rfl rfl _ (wrap_id (by omega) (by omega))) ?_
     refine Ze (Ev_lss rfl rfl) ?_
     refine Zn hK16 ?_
     refine Zc (fun hc5 => ?_) fun hc5 => ?_
     ·have h9 : ((i : Nat) : Int) < 38 + x2.tmod 4 := of_decide_eq_true hc5
      refine Zk hK15 ?_
      refine AC_seq fun _ hK17 => ?_
      refine AC_block ?_
      refine AC_region ?_
      refine YL ts41 ta41 ?_
      refine AL_bD (Lay.st [.one, .one, .one, .one]) rfl te39 ts41 tz41 rfl rfl (by decide) (by decide) (by simp [lenDs, goodVs, goodV, V.known, Lay.len, Lay.lens]) rfl ?_
      refine Ze (Ev_buildD (fs := [.one, .one, .one, .one]) (zs := [.c (.int .i64 0), .c (.string ⟨#[]⟩), .c (.int .i64 0), .c (.slice none 0 0)]) tz41 rfl tpl41 (.cons rfl rfl (by rfl) (.cons rfl rfl (by rfl) (.cons rfl rfl (by rfl) .nil))) rfl) ?_
      refine Ys ts41 ?_
      refine Zn hK17 ?_
      refine AC_region ?_
      refine Zm ?_
      refine Ze (Ev_add rfl rfl _ (wrap_id (by omega) (by omega))) ?_
      refine Za ?_
      refine AL_nil ?_
      refine closeS (i + 1) [some 0, some 1] rfl rfl (by show 42 - (i + 1) < 42 - i; omega) (by show i + 1 ≤ 42; omega) (Bx (.cons (.rd .d) .nil) (Bx (.cons (.rd .d) .nil) BxTo_nil)) (SlTo_cons (Vw_int (by rfl)) Sl_)
     ·have h9 : ¬ ((i : Nat) : Int) < 38 + x2.tmod 4 := of_decide_eq_false hc5
      refine Zx hK5 ?_
      refine Zs fun _ hK18 => ?_
      refine YL ts41 ta41 ?_
      refine Ys ts41 ?_
      refine Zn hK18 ?_
      refine AC_ret ?_
      exact retd_ok hM hcu hdm (.cell rfl rfl rfl rfl rfl rfl ts41 ta41 (by exact inj_isAgg _) (by intro h; cases h) .nil) .d ⟨wrapN i (.mk tk ts tm tks), rfl, by have := bulk_wrap (.mk tk ts tm tks) i; omega, .inr (wrap_none (by omega))⟩
    ·refine Zk hK5 ?_
     refine Zs fun _ hK19 => ?_
     refine YL ts41 ta41 ?_
     refine Ys ts41 ?_
     refine Zn hK19 ?_
     refine AC_ret ?_
     exact retd_ok hM hcu hdm (.cell rfl rfl rfl rfl rfl rfl ts41 ta41 (by rfl) (by intro h; cases h) .nil) .d ⟨.mk tk ts tm tks, rfl, by omega, .inl hh3⟩
end Go.Proofs.YtjgliechbnommaaGreatDoor
set_option linter.unusedVariables false
set_option linter.unusedSimpArgs false
namespace Go.Proofs.YtjgliechbnommaaGreatDoor
open Go.Eng
theorem cl123 : Callable Tryz.prog 123 := Zq Tryz.func123
theorem cl146 : Callable Tryz.prog 146 := Zq Tryz.func146
theorem cl165 : Callable Tryz.prog 165 := Zq Tryz.func165
theorem cl57 : Callable Tryz.prog 57 := Zq Tryz.func57
theorem zo9 : ZeroOf Tryz.prog 9 .one (.d (.c (.string ⟨#[]⟩))) := ⟨_, tz9, rfl, fun _ _ _ => VC_cells rfl⟩
set_option maxHeartbeats 1000000 in
set_option maxRecDepth 4000 in
theorem c_copyP (cs : List Cl) (hl : cs.length ≤ 1048576) : OwC Tryz.prog 122 [injD ⟨cs, []⟩] [.agg [.one, .one] [.d (.sl LC (injCs cs)), .emp]] [] := by
 refine HCallX_of (n := 12) Tryz.func122 rfl rfl (Nat.le_of_ble_eq_true rfl) (Nat.le_refl 0) fun C0 o hT => ?_
 refine Zs fun _ hK1 => ?_
 refine AL_box (Lay.st [.one, .one]) (nf rfl) rfl (by rfl) _ rfl rfl ?_
 refine AL_alloc zo27 _ rfl rfl ?_
 refine Zn hK1 ?_
 refine AC_seq fun _ hK2 => ?_
 refine AC_wk (Wk_to [some 1] [(1, .d (.rp LD (injD ⟨cs, []⟩) [])), (2, .ptr LD 0 0 [])] [some ⟨27, LD, [.d zDb]⟩] rfl rfl (Bx (.cons (.rd .d) .nil) BxTo_nil) (SlTo_cons (.rd (.ptr (srcFree rfl) rfl rfl rfl .d)) Sl_) ?_)
 refine AC_drawq hT follows [5, 9] [1, 2, 5, 6, 0, 4, 3, 7, 8, 9] (by kernel_rfl) ?_
 refine DT_ev rfl (EA_fa_rp rfl fa27_0 rfl rfl) rfl ?_
 refine DT_loadq rfl rfl rfl rfl ts24 ta24 rfl (fun _ => rfl) rfl ?_
 refine DT_ev rfl (EA_fa_rp rfl fa27_1 rfl rfl) rfl ?_
 refine DT_loadq rfl rfl rfl rfl ts25 ta25 rfl (fun _ => rfl) rfl ?_
 refine DT_bE (Lay.st [(Lay.st [.one, .one, .one, .one]), (Lay.st [.one, .one, .one, .one]), .one]) rfl te24 ts54 rfl ?_
 refine DT_bE .one rfl te25 ts9 rfl ?_
 refine DT_appendE rfl rfl rfl te24 ts54 tz54 tb54 (by decide) (by simp only [lim]; (simp; omega)) rfl ?_
 refine DT_appendEE rfl rfl rfl te25 ts9 tz9 tb9 rfl ?_
 refine DT_ev rfl (EA_build (fs := [.one, .one]) (zs := [.c (.slice none 0 0), .c (.slice none 0 0)]) tz27 rfl tpl27 (.cons rfl rfl (by rfl) (.cons rfl rfl (by rfl) .nil))) rfl ?_
 refine DT_store rfl rfl (nf rfl) rfl rfl rfl rfl rfl rfl (by rfl) ts27 rfl rfl ?_
 refine Zd hK2 ?_
 refine AC_ret ?_
 exact retr_ok () trivial [] (CExt.refl _) (.cell rfl rfl rfl rfl rfl rfl ts27 ta27 (by rfl) (by intro h; cases h) .nil) rfl rfl BxF_nil (Nat.zero_le _) (.cons (.agg (.cons .d (.cons .emp .nil))) .nil)
set_option maxHeartbeats 1000000 in
set_option maxRecDepth 4000 in
theorem c_openedRaw (cs : List Cl) (hl : cs.length ≤ 1048576) (p : ByteArray) : PCall Tryz.prog 165 [injD ⟨cs, []⟩, .c (.string p)] (· = [injD ⟨cs, [p]⟩]) := by
 refine PCall_of (n := 35) Tryz.func165 rfl rfl (Nat.le_of_ble_eq_true rfl) fun C hdm hT0 => ?_
 have hT := hT0
 refine Zs fun _ hK1 => ?_
 refine AL_box (Lay.st [.one, .one]) (nf rfl) rfl (by rfl) _ rfl rfl ?_
 refine AL_alloc zo27 _ rfl rfl ?_
 refine Zn hK1 ?_
 refine Zs fun _ hK2 => ?_
 refine YL ts27 ta27 ?_
 refine AL_owc hT rfl cl122 (c_copyP cs hl) rfl 2 rfl [.agg [.one, .one] [.d (.sl LC (injCs cs)), .emp]] [] BxO_nil (.cons (.agg (.cons .d (.cons .emp .nil))) .nil) rfl ?_
 refine AL_alloc zo27 _ rfl rfl ?_
 refine Ys ts27 ?_
 refine Zn hK2 ?_
 refine AC_seq fun _ hK3 => ?_
 refine Zs fun _ hK4 => ?_
 refine Za ?_
 refine Zn hK4 ?_
 refine AC_block ?_
 refine AC_loopO ?_
 refine AC_seq fun _ hK5 => ?_
 refine Zs fun _ hK6 => ?_
 refine Zm ?_
 refine Ya fa27_1 ?_
 refine Yl ts25 ta25 ?_
 refine AL_lim (x := (Operand.tmp 11)) rfl fun hl1 => ?_
 try simp only [injs_length, ints_length, strs_length, injCs_length, u8s_length, List.length_map] at hl1
 refine Ze (Ev_len_strs te25 rfl) ?_
 refine Ze (Ev_lss rfl rfl) ?_
 refine Zn hK6 ?_
 refine Zc (fun hc1 => ?_) fun hc1 => ?_
 ·simp [strs] at hc1
 ·refine Zx hK3 ?_
  refine AC_seq fun _ hK7 => ?_
  refine Zs fun _ hK8 => ?_
  refine Ya fa27_1 ?_
  refine Yl ts25 ta25 ?_
  have hl2 := True.intro
  refine Ze (Ev_len_emp te25 rfl) ?_
  refine Ze (Ev_lss rfl rfl) ?_
  refine Zn hK8 ?_
  refine Zc (fun hc2 => ?_) fun hc2 => ?_
  ·refine AC_region ?_
   refine Ya fa27_1 ?_
   refine Yl ts25 ta25 ?_
   refine Zm ?_
   refine AL_bD .one rfl te25 ts9 tz9 rfl rfl (by decide) (by decide) (by rfl) rfl ?_
   refine AL_appendE rfl rfl te25 ts9 tz9 tb9 (by decide) (by simp only [lim]; (simp; done)) rfl ?_
   refine Ya fa27_1 ?_
   refine Ys ts25 ?_
   refine Zn hK7 ?_
   refine Zs fun _ hK9 => ?_
   refine YL ts27 ta27 ?_
   refine Ys ts27 ?_
   refine Zn hK9 ?_
   refine AC_ret ?_
   exact ret_ok hdm (.cell rfl rfl rfl rfl rfl rfl ts27 ta27 (by rfl) (by intro h; cases h) .nil) (.cons (.agg (.cons .d (.cons .d .nil))) .nil) rfl
  ·simp at hc2
set_option maxHeartbeats 1000000 in
set_option maxRecDepth 4000 in
theorem c_opened (cs : List Cl) (hl : cs.length ≤ 1048576) (p : ByteArray) : PCall Tryz.prog 146 [injD ⟨cs, []⟩, .c (.string p)] (· = [injD ⟨cs, [p]⟩]) := by
 refine PCall_of (n := 11) Tryz.func146 rfl rfl (Nat.le_of_ble_eq_true rfl) fun C hdm hT0 => ?_
 have hT := hT0
 refine Zs fun _ hK1 => ?_
 refine AL_box (Lay.st [.one, .one]) (nf rfl) rfl (by rfl) _ rfl rfl ?_
 refine AL_alloc zo27 _ rfl rfl ?_
 refine Zn hK1 ?_
 refine Zs fun _ hK2 => ?_
 refine YL ts27 ta27 ?_
 refine Zm ?_
 refine AL_fcall0 hT rfl cl165 (c_openedRaw cs hl p) rfl rfl ?_
 refine AL_alloc zo27 _ rfl rfl ?_
 refine Ys ts27 ?_
 refine Zn hK2 ?_
 refine Zs fun _ hK3 => ?_
 refine YL ts27 ta27 ?_
 refine AL_fcall0 hT rfl cl115 (c_l34Db ⟨cs, [p]⟩ (by show (1 : Nat) ≤ _; decide)) rfl rfl ?_
 refine Ys ts27 ?_
 refine Zn hK3 ?_
 refine AC_ret ?_
 exact ret_ok hdm (.cell rfl rfl rfl rfl rfl rfl ts27 ta27 (by rfl) (by intro h; cases h) .nil) (.cons .d .nil) rfl
set_option maxHeartbeats 4000000 in
set_option maxRecDepth 4000 in
theorem c_l08Db  : DCall Tryz.prog 123 [] (fun r => ∃ d : Dbt, r = injD d ∧ bulkD d ≤ 145100 ∧ d.cs.length ≤ 29 ∧ d.op.length ≤ 1 ∧ ∃ r, d.cs = cPA :: r) := by
 refine DCall_of (n := 67) Tryz.func123 rfl rfl (Nat.le_of_ble_eq_true rfl) fun C0 b bs hdm hbl hT hcu => ?_
 have hM := Mk.refl C0 [b]
 refine Zs fun _ hK1 => ?_
 refine AL_alloc zo27 _ rfl rfl ?_
 refine Zn hK1 ?_
 refine Zs fun _ hK2 => ?_
 refine Ze (Ev_buildD (fs := [.one, .one]) (zs := [.c (.slice none 0 0), .c (.slice none 0 0)]) tz27 rfl tpl27 .nil rfl) ?_
 refine AL_wk (Wk_conv 12 rfl zD_le ?_)
 refine AL_alloc zo27 _ rfl rfl ?_
 refine Ys ts27 ?_
 refine Zn hK2 ?_
 refine Zs fun _ hK3 => ?_
 refine AL_pcall0 hT rfl cl81 c_l08Lines rfl rfl ?_
 rintro _ ⟨ls, rfl, ⟨hB0, hlz⟩, hB1, hB2⟩
 refine Za ?_
 refine Zn hK3 ?_
 refine Zs fun _ hK4 => ?_
 refine Zm ?_
 refine AL_dcall hT hcu hbl rfl cl59 (c_below 7 (by omega)) rfl rfl rfl fun C1 r1 hR1 hM1 hcu hT => ?_
 have hM := hM.trans hM1 (fun c hc _ => hc)
 obtain ⟨x0, rfl, hx0, hy0⟩ := hR1
 refine Za ?_
 refine Zn hK4 ?_
 refine AC_seq fun _ hK5 => ?_
 refine Zs fun _ hK6 => ?_
 refine Za ?_
 refine Zn hK6 ?_
 refine AC_block ?_
 refine AC_loopS [0, 2, 3] (Nat × Dbt) (fun q => [(6, i64 ((q.1 : Nat) : Int)), (4, .d (.sl .one (strs ls))), (5, i64 x0)]) (fun q => [some ⟨27, LD, [.d zDb]⟩, some ⟨27, LD, [.d (injD q.2)]⟩]) (fun q => 30 - q.1) (fun q => q.1 ≤ 29 ∧ bulkD q.2 ≤ 5000 * (q.1 : Int) ∧ q.2.cs.length ≤ q.1 ∧ q.2.op = [] ∧ (0 < q.1 → ∃ r, q.2.cs = cPA :: r)) ((0, ⟨[], []⟩)) ?_ ?_ ?_
 ·exact enterS [some 0, some 1] rfl rfl (Bx (.cons (.rd .d) .nil) (Bx (.cons (.rd .d) .nil) BxTo_nil)) Sl_
 ·exact ⟨Nat.zero_le _, by decide, Nat.zero_le _, rfl, fun h => absurd h (Nat.lt_irrefl 0)⟩
 rintro ⟨j, ⟨cs, op⟩⟩ ⟨hj, hbd, hcl, hop, hfst⟩
 simp only at hj hbd hcl hop hfst
 refine AC_seq fun _ hK7 => ?_
 refine Zs fun _ hK8 => ?_
 iterate 2 refine Zm ?_
 refine AL_lim (x := (Operand.tmp 17)) rfl fun hl1 => ?_
 try simp only [injs_length, ints_length, strs_length, injCs_length, u8s_length, List.length_map] at hl1
 refine Ze (Ev_len_strs te25 rfl) ?_
 refine Ze (Ev_lss rfl rfl) ?_
 refine Zn hK8 ?_
 refine Zc (fun hc1 => ?_) fun hc1 => ?_
 ·have hlt : j < ls.length := by have := of_decide_eq_true hc1; simp only at this; omega
  obtain ⟨s0, hu⟩ : ∃ x, ls[j]? = some x := ⟨_, List.getElem?_eq_getElem hlt⟩
  have hu2 := strs_get hu
  have hz0 := hlz s0 (List.mem_of_getElem? hu)
  have h2s : (⟨#[32, 46]⟩ : ByteArray).size = 2 := rfl
  have hsz : (s0 ++ ⟨#[32, 46]⟩).size ≤ 62 := by rw [ByteArray.size_append]; omega
  refine Zk hK7 ?_
  refine AC_seq fun _ hK9 => ?_
  refine AC_block ?_
  refine Zs fun _ hK10 => ?_
  iterate 2 refine Zm ?_
  refine Yi te25 ts9 ?_
  refine Yp ts9 ta9 ?_
  refine Ze (Ev_sadd rfl rfl (by omega)) ?_
  refine AL_pcall0 hT rfl cl82 (c_readTermR (s0 ++ ⟨#[32, 46]⟩) (by omega)) rfl rfl ?_
  rintro _ ⟨t9, e9, b9, rfl, hbt, hr9⟩
  have hj0 : j = 0 → t9 = tPA ∧ b9 = true := fun h => by
   subst h
   rw [hB2] at hu
   injection hu with hu
   rw [← hu, readPA] at hr9
   injection hr9 with h1 h2
   exact ⟨h1, h2⟩
  refine Zm ?_
  refine Ze (Ev_extract rfl rfl) ?_
  refine Ze (Ev_extract rfl rfl) ?_
  refine Ze (Ev_extract rfl rfl) ?_
  refine AL_alloc zo41 _ rfl rfl ?_
  refine Ys ts41 ?_
  iterate 2 refine Za ?_
  refine Zn hK10 ?_
  have hz9 : ∃ w : ByteArray, [D.c (.string ⟨#[111, 110, 101]⟩), .c (.string ⟨#[116, 119, 111]⟩), .c (.string ⟨#[]⟩)][(((j : Nat) : Int).tmod 3).toNat]? = some (.c (.string w)) ∧ w.size ≤ 3 ∧ (j = 0 → w = ⟨#[111, 110, 101]⟩) := by
   have h1 := Int.tmod_nonneg 3 (show (0 : Int) ≤ (j : Int) by omega)
   have h2 := Int.tmod_lt_of_pos ((j : Nat) : Int) (show (0 : Int) < 3 by omega)
   have h3 : j = 0 → ((j : Nat) : Int).tmod 3 = 0 := fun h => by rw [h]; rfl
   generalize ((j : Nat) : Int).tmod 3 = q at h1 h2 h3 ⊢
   have hq : q.toNat < 3 := by omega
   have h4 : j = 0 → q.toNat = 0 := fun h => by rw [h3 h]; rfl
   generalize q.toNat = q2 at hq h4 ⊢
   match q2, hq with
   | 0, _ => exact ⟨_, rfl, by decide, fun _ => rfl⟩
   | 1, _ => exact ⟨_, rfl, by decide, fun h => absurd (h4 h) (by decide)⟩
   | 2, _ => exact ⟨_, rfl, by decide, fun h => absurd (h4 h) (by decide)⟩
  refine Exists.elim hz9 fun nm hz9 => ?_
  obtain ⟨hz9, hnm, hn0⟩ := hz9
  have hn1 := Int.tmod_nonneg 3 (show (0 : Int) ≤ (j : Int) by omega)
  have hpC := c_clauseOf t9 nm (by omega)
  have hbc := clOf_bulk t9 nm
  have hk0 : j = 0 → clOf t9 nm = (cPA, true) := fun h => by rw [(hj0 h).1, hn0 h]; exact clPA
  generalize clOf t9 nm = q9 at hpC hbc hk0
  obtain ⟨⟨ch, cb, cf⟩, bc⟩ := q9
  simp only [Prod.mk.injEq] at hbc hk0
  refine AC_seqJ (fun f L => f = frOf [(0, rawP b 0), (2, .ptr LD 0 0 []), (3, .ptr LD 1 0 []), (4, .d (.sl .one (strs ls))), (5, i64 x0), (6, i64 ((j : Nat) : Int)), (9, .d (.c (.bool b9))), (10, .ptr LC 2 0 []), (11, .d (.c (.bool bc)))] ∧ L = [some ⟨27, LD, [.d zDb]⟩, some ⟨27, LD, [.d (injD ⟨cs, op⟩)]⟩, some ⟨54, LC, [.d (injC ⟨ch, cb, cf⟩)]⟩]) ?_ ?_
  ·refine AC_draw hT follows [0, 2, 3, 1, 4, 5, 6, 7, 8, 9, 10, 11, 12] (by kernel_rfl) ?_
   refine DT_ev rfl (EA_load_ptr rfl rfl rfl rfl rfl rfl ts41 ta41 (by simp) (by intro h; cases h)) rfl ?_
   refine DT_ev rfl (EA_move) rfl ?_
   refine DT_ev rfl (EA_rem rfl rfl (by decide)) rfl ?_
   refine DT_bD .one rfl rfl te25 ts9 tz9 rfl rfl (by decide) (by decide) (by rfl) rfl ?_
   refine DT_ev rfl (EA_ix_sl rfl rfl te25 ts9 (by omega) (by assumption)) rfl ?_
   refine DT_ev rfl (EA_load_rp rfl rfl rfl ts9 ta9 rfl (fun _ => rfl)) rfl ?_
   refine DT_fcall0 rfl rfl cl84 (hpC) rfl rfl ?_
   refine DT_ev rfl (EA_move) rfl ?_
   refine DT_ev rfl (EA_extract rfl rfl) rfl ?_
   refine DT_floatS [0, 2, 3, 1, 4, 5, 6, 7, 8, 9, 10, 11, 12] (os := [_, _]) (os2 := [_, _, _]) rfl (EA_extract rfl rfl) rfl rfl tz54 rfl rfl (by kernel_rfl) (by kernel_rfl) rfl rfl fun Ca1 ba1 hxa1 hba1 hla1 => ⟨?_, ?_⟩
   ·refine AL_boxraw (s := 10) (l := (Lay.st [(Lay.st [.one, .one, .one, .one]), (Lay.st [.one, .one, .one, .one]), .one])) (z := .agg [(Lay.st [.one, .one, .one, .one]), (Lay.st [.one, .one, .one, .one]), .one] [.agg [.one, .one, .one, .one] [.c (.int .i64 0), .c (.string ⟨#[]⟩), .c (.int .i64 0), .c (.slice none 0 0)], .agg [.one, .one, .one, .one] [.c (.int .i64 0), .c (.string ⟨#[]⟩), .c (.int .i64 0), .c (.slice none 0 0)], .c (.string ⟨#[]⟩)]) hxa1 rfl hba1 hla1 rfl (fun _ _ _ => VC_cells rfl) _ rfl ?_
    refine Ys ts54 ?_
    refine Za ?_
    refine AL_nil ?_
    refine joinS [some 0, some 1, some 3] rfl rfl (Bx (.cons (.rd .d) .nil) (Bx (.cons (.rd .d) .nil) (Bx (.cons (.rd .d) .nil) BxTo_nil))) Sl_
   ·refine AL_boxraw (s := 10) (l := (Lay.st [(Lay.st [.one, .one, .one, .one]), (Lay.st [.one, .one, .one, .one]), .one])) (z := .agg [(Lay.st [.one, .one, .one, .one]), (Lay.st [.one, .one, .one, .one]), .one] [.agg [.one, .one, .one, .one] [.c (.int .i64 0), .c (.string ⟨#[]⟩), .c (.int .i64 0), .c (.slice none 0 0)], .agg [.one, .one, .one, .one] [.c (.int .i64 0), .c (.string ⟨#[]⟩), .c (.int .i64 0), .c (.slice none 0 0)], .c (.string ⟨#[]⟩)]) hxa1 rfl hba1 hla1 rfl (fun _ _ _ => VC_cells rfl) _ rfl ?_
    refine Ys ts54 ?_
    refine Ze (Ev_extract rfl rfl) ?_
    refine Za ?_
    refine AL_nil ?_
    refine joinS [some 0, some 1, some 3] rfl rfl (Bx (.cons (.rd .d) .nil) (Bx (.cons (.rd .d) .nil) (Bx (.cons (.rd .d) .nil) BxTo_nil))) Sl_
  ·rintro f L ⟨rfl, rfl⟩
   refine Zs fun _ hK12 => ?_
   iterate 2 refine Zm ?_
   refine Zb 43 (fun hg2 => ?_) fun hg2 => ?_
   ·refine Zt ?_
    refine Zm ?_
    refine Zp ?_
    refine Zm ?_
    refine Zb 46 (fun hg3 => ?_) fun hg3 => ?_
    ·refine Zt ?_
     refine Zm ?_
     refine Zt ?_
     refine Ze (Ev_eql rfl rfl) ?_
     refine Zt ?_
     refine Zm ?_
     refine Zb 49 (fun hg4 => ?_) fun hg4 => ?_
     ·iterate 4 refine Zg ?_
      refine Zt ?_
      iterate 2 refine Zp ?_
      refine Zn hK12 ?_
      refine AC_cond_t rfl ?_
      refine AC_region ?_
      refine YL ts27 ta27 ?_
      refine YL ts54 ta54 ?_
      refine AL_pcall0 hT rfl cl85 (c_addedR ⟨cs, op⟩ ⟨ch, cb, cf⟩ (by show cs.length ≤ 1048576; omega) (by show op.length ≤ 1048576; rw [hop]; decide) (by show bulkD ⟨cs ++ [⟨ch, cb, cf⟩], op⟩ ≤ _; rw [bulkD_app]; omega)) rfl rfl ?_
      rintro _ ⟨⟨cs2, op2⟩, bd, rfl, ha9, hbd2, hcl2, hop2⟩
      refine Zm ?_
      refine Ze (Ev_extract rfl rfl) ?_
      refine Ze (Ev_extract rfl rfl) ?_
      refine Ys ts27 ?_
      refine Zn hK9 ?_
      refine AC_region ?_
      refine Zm ?_
      refine Ze (Ev_add rfl rfl _ (wrap_id (by omega) (by omega))) ?_
      refine Za ?_
      refine AL_nil ?_
      refine closeS (j + 1, ⟨cs2, op2⟩) [some 0, some 1] rfl rfl (by show 30 - (j + 1) < 30 - j; omega) ⟨by show j + 1 ≤ 29; omega, by show bulkD ⟨cs2, op2⟩ ≤ 5000 * ((j + 1 : Nat) : Int); omega, by show cs2.length ≤ j + 1; simp only at hcl2; omega, hop2.trans hop, fun _ => addPA hcl hop hfst (fun h => (hk0 h).1) ha9⟩ (Bx (.cons (.rd .d) .nil) (Bx (.cons (.rd .d) .nil) BxTo_nil)) Sl_
     ·refine Zt ?_
      refine Zm ?_
      refine Zt ?_
      refine Ze (Ev_rem rfl rfl (by decide)) ?_
      refine Zt ?_
      refine Zm ?_
      refine Zt ?_
      refine Ze (Ev_neq rfl rfl) ?_
      refine Zt ?_
      iterate 2 refine Zp ?_
      refine Zn hK12 ?_
      refine Zc (fun hc5 => ?_) fun hc5 => ?_
      ·refine AC_region ?_
       refine YL ts27 ta27 ?_
       refine YL ts54 ta54 ?_
       refine AL_pcall0 hT rfl cl85 (c_addedR ⟨cs, op⟩ ⟨ch, cb, cf⟩ (by show cs.length ≤ 1048576; omega) (by show op.length ≤ 1048576; rw [hop]; decide) (by show bulkD ⟨cs ++ [⟨ch, cb, cf⟩], op⟩ ≤ _; rw [bulkD_app]; omega)) rfl rfl ?_
       rintro _ ⟨⟨cs2, op2⟩, bd, rfl, ha9, hbd2, hcl2, hop2⟩
       refine Zm ?_
       refine Ze (Ev_extract rfl rfl) ?_
       refine Ze (Ev_extract rfl rfl) ?_
       refine Ys ts27 ?_
       refine Zn hK9 ?_
       refine AC_region ?_
       refine Zm ?_
       refine Ze (Ev_add rfl rfl _ (wrap_id (by omega) (by omega))) ?_
       refine Za ?_
       refine AL_nil ?_
       refine closeS (j + 1, ⟨cs2, op2⟩) [some 0, some 1] rfl rfl (by show 30 - (j + 1) < 30 - j; omega) ⟨by show j + 1 ≤ 29; omega, by show bulkD ⟨cs2, op2⟩ ≤ 5000 * ((j + 1 : Nat) : Int); omega, by show cs2.length ≤ j + 1; simp only at hcl2; omega, hop2.trans hop, fun _ => addPA hcl hop hfst (fun h => (hk0 h).1) ha9⟩ (Bx (.cons (.rd .d) .nil) (Bx (.cons (.rd .d) .nil) BxTo_nil)) Sl_
      ·refine Zk hK9 ?_
       refine AC_region ?_
       refine Zm ?_
       refine Ze (Ev_add rfl rfl _ (wrap_id (by omega) (by omega))) ?_
       refine Za ?_
       refine AL_nil ?_
       refine closeS (j + 1, ⟨cs, op⟩) [some 0, some 1] rfl rfl (by show 30 - (j + 1) < 30 - j; omega) ⟨by show j + 1 ≤ 29; omega, by show bulkD ⟨cs, op⟩ ≤ 5000 * ((j + 1 : Nat) : Int); omega, by show cs.length ≤ j + 1; omega, hop, fun _ => by
        rcases Nat.eq_zero_or_pos j with h0 | h0
        ·subst h0
         simp only [Int.ofNat_zero] at hc5
         have h5 : 0 = x0 := by simpa using hc5
         have h4 : ¬ x0 = 0 := of_decide_eq_false hg4
         exact absurd h5.symm h4
        ·exact hfst h0⟩ (Bx (.cons (.rd .d) .nil) (Bx (.cons (.rd .d) .nil) BxTo_nil)) Sl_
    ·iterate 3 refine Zg ?_
     iterate 4 refine Zu ?_
     refine Zg ?_
     refine Zp ?_
     refine Zn hK12 ?_
     refine AC_cond_f rfl ?_
     refine Zk hK9 ?_
     refine AC_region ?_
     refine Zm ?_
     refine Ze (Ev_add rfl rfl _ (wrap_id (by omega) (by omega))) ?_
     refine Za ?_
     refine AL_nil ?_
     refine closeS (j + 1, ⟨cs, op⟩) [some 0, some 1] rfl rfl (by show 30 - (j + 1) < 30 - j; omega) ⟨by show j + 1 ≤ 29; omega, by show bulkD ⟨cs, op⟩ ≤ 5000 * ((j + 1 : Nat) : Int); omega, by show cs.length ≤ j + 1; omega, hop, fun _ => by
      rcases Nat.eq_zero_or_pos j with h0 | h0
      ·rw [(hk0 h0).2] at hg3; cases hg3
      ·exact hfst h0⟩ (Bx (.cons (.rd .d) .nil) (Bx (.cons (.rd .d) .nil) BxTo_nil)) Sl_
   ·refine Zg ?_
    refine Zp ?_
    refine Zm ?_
    iterate 3 refine Zg ?_
    iterate 4 refine Zu ?_
    refine Zg ?_
    refine Zp ?_
    refine Zn hK12 ?_
    refine AC_cond_f rfl ?_
    refine Zk hK9 ?_
    refine AC_region ?_
    refine Zm ?_
    refine Ze (Ev_add rfl rfl _ (wrap_id (by omega) (by omega))) ?_
    refine Za ?_
    refine AL_nil ?_
    refine closeS (j + 1, ⟨cs, op⟩) [some 0, some 1] rfl rfl (by show 30 - (j + 1) < 30 - j; omega) ⟨by show j + 1 ≤ 29; omega, by show bulkD ⟨cs, op⟩ ≤ 5000 * ((j + 1 : Nat) : Int); omega, by show cs.length ≤ j + 1; omega, hop, fun _ => by
     rcases Nat.eq_zero_or_pos j with h0 | h0
     ·rw [(hj0 h0).2] at hg2; cases hg2
     ·exact hfst h0⟩ (Bx (.cons (.rd .d) .nil) (Bx (.cons (.rd .d) .nil) BxTo_nil)) Sl_
 ·have hj9 : 0 < j := by have := of_decide_eq_false hc1; simp only at this; omega
  subst hop
  refine Zx hK5 ?_
  refine AC_seq fun _ hK13 => ?_
  refine Zs fun _ hK14 => ?_
  refine Zm ?_
  refine AL_dcall hT hcu hbl rfl cl56 (c_onceD 2 (by omega)) rfl rfl rfl fun C2 r2 hR2 hM2 hcu hT => ?_
  have hM := hM.trans hM2 (fun c hc _ => hc)
  obtain ⟨x2, rfl⟩ := hR2
  refine Zn hK14 ?_
  refine Zc (fun hc6 => ?_) fun hc6 => ?_
  ·refine AC_region ?_
   refine YL ts27 ta27 ?_
   refine AL_fcall0 hT rfl cl146 (c_opened cs (by omega) ⟨#[117, 110, 107, 110, 111, 119, 110, 47, 49]⟩) rfl rfl ?_
   refine Ys ts27 ?_
   refine Zn hK13 ?_
   refine Zs fun _ hK15 => ?_
   refine YL ts27 ta27 ?_
   refine Ys ts27 ?_
   refine Zn hK15 ?_
   refine AC_ret ?_
   exact retd_ok hM hcu hdm (.cell rfl rfl rfl rfl rfl rfl ts27 ta27 (by rfl) (by intro h; cases h) .nil) .d ⟨⟨cs, [⟨#[117, 110, 107, 110, 111, 119, 110, 47, 49]⟩]⟩, rfl, by simp only [bulkD, bulkSs, List.length_nil, List.length_singleton] at hbd ⊢; have : (⟨#[117, 110, 107, 110, 111, 119, 110, 47, 49]⟩ : ByteArray).size = 9 := rfl; omega, by show cs.length ≤ 29; omega, by show 1 ≤ 1; omega, hfst hj9⟩
  ·refine Zk hK13 ?_
   refine Zs fun _ hK16 => ?_
   refine YL ts27 ta27 ?_
   refine Ys ts27 ?_
   refine Zn hK16 ?_
   refine AC_ret ?_
   exact retd_ok hM hcu hdm (.cell rfl rfl rfl rfl rfl rfl ts27 ta27 (by rfl) (by intro h; cases h) .nil) .d ⟨⟨cs, []⟩, rfl, by omega, by show cs.length ≤ 29; omega, Nat.zero_le _, hfst hj9⟩
set_option maxHeartbeats 4000000 in
set_option maxRecDepth 4000 in
theorem c_l08Any  : DCall Tryz.prog 95 [] (fun r => ∃ d : Dbt, r = injD d ∧ bulkD d ≤ 300000 ∧ d.cs.length ≤ 200 ∧ d.op.length ≤ 41) := by
 refine DCall_of (n := 44) Tryz.func95 rfl rfl (Nat.le_of_ble_eq_true rfl) fun C0 b bs hdm hbl hT hcu => ?_
 have hM := Mk.refl C0 [b]
 refine Zs fun _ hK1 => ?_
 refine AL_alloc zo27 _ rfl rfl ?_
 refine Zn hK1 ?_
 refine Zs fun _ hK2 => ?_
 refine Zm ?_
 refine AL_dcall hT hcu hbl rfl cl59 (c_below 10 (by omega)) rfl rfl rfl fun C1 r1 hR1 hM1 hcu hT => ?_
 have hM := hM.trans hM1 (fun c hc _ => hc)
 obtain ⟨x0, rfl, hx0, hy0⟩ := hR1
 refine Za ?_
 refine Zn hK2 ?_
 refine Zs fun _ hK3 => ?_
 refine Zm ?_
 refine AL_dcall hT hcu hbl rfl cl123 (c_l08Db) rfl rfl rfl fun C2 r2 hR2 hM2 hcu hT => ?_
 have hM := hM.trans hM2 (fun c hc _ => hc)
 obtain ⟨⟨cs, op⟩, rfl, hbd, hcl, hop, r8, hr8⟩ := hR2
 simp only at hcl hop hr8
 subst hr8
 have hr8l : r8.length ≤ 28 := by simp only [List.length_cons] at hcl; omega
 refine AL_owc hT rfl cl122 (c_copyO (cPA :: r8) op (by omega) (by omega) (by simp)) rfl 1 rfl [.agg [.one, .one] [.ref LC 1 0 (cPA :: r8).length, .d (.sl .one (strs op))]] [⟨54, LC, (injCs (cPA :: r8)).map V.d⟩] (BxO_cons rfl rfl (VxL_d _) rfl BxO_nil) (.cons (.agg (.cons (.ref rfl) (.cons .d .nil))) .nil) rfl ?_
 refine AL_alloc zo27 _ rfl rfl ?_
 refine Ys ts27 ?_
 refine Zn hK3 ?_
 refine AC_seq fun _ hK4 => ?_
 refine Zs fun _ hK5 => ?_
 refine Zm ?_
 refine Zn hK5 ?_
 refine AC_block ?_
 refine Zs fun _ hK6 => ?_
 refine Ze (Ev_eql rfl rfl) ?_
 refine Za ?_
 refine Zn hK6 ?_
 refine Zc (fun hc1 => ?_) fun hc1 => ?_
 ·refine AC_draw hT follows [0, 1, 2, 4, 3, 5, 6, 7, 8, 9, 10] (by kernel_rfl) ?_
  refine DT_ev rfl (EA_fa_ptr rfl fa27_0 rfl rfl) rfl ?_
  refine DT_ev rfl (EA_load_ptr rfl rfl rfl rfl rfl rfl ts24 ta24 rfl (fun _ => rfl)) rfl ?_
  refine DT_ev rfl (EA_move) rfl ?_
  refine DT_ev rfl (EA_move) rfl ?_
  refine DT_dcall hT hcu hbl rfl rfl cl57 (c_any03) rfl rfl rfl (by kernel_rfl) fun C3 r3 hR3 hM3 hcu hT => ?_
  have hM := hM.trans hM3 (fun c hc _ => hc)
  obtain ⟨ta, rfl, hba, hoa⟩ := hR3
  refine DT_dcall hT hcu hbl rfl rfl cl57 (c_any03) rfl rfl rfl (by kernel_rfl) fun C4 r4 hR4 hM4 hcu hT => ?_
  have hM := hM.trans hM4 (fun c hc _ => hc)
  obtain ⟨tb, rfl, hbb, hob⟩ := hR4
  refine DT_ev rfl (EA_buildD (fs := [(Lay.st [.one, .one, .one, .one]), (Lay.st [.one, .one, .one, .one]), .one]) (zs := [.agg [.one, .one, .one, .one] [.c (.int .i64 0), .c (.string ⟨#[]⟩), .c (.int .i64 0), .c (.slice none 0 0)], .agg [.one, .one, .one, .one] [.c (.int .i64 0), .c (.string ⟨#[]⟩), .c (.int .i64 0), .c (.slice none 0 0)], .c (.string ⟨#[]⟩)]) tz54 rfl tpl54 (.cons rfl rfl (by (simp [inj_lenL, Lay.len, Lay.lens]; done)) (.cons rfl rfl (by (simp [inj_lenL, Lay.len, Lay.lens]; done)) .nil)) rfl) rfl ?_
  refine DT_bD (Lay.st [(Lay.st [.one, .one, .one, .one]), (Lay.st [.one, .one, .one, .one]), .one]) rfl rfl te24 ts54 tz54 rfl rfl (by decide) (by decide) (by rfl) rfl ?_
  refine DT_append_sl rfl rfl rfl rfl rfl te24 ts54 tz54 rfl tb54 (by decide) (by decide) rfl (by (simp; done)) (by simp only [lim]; (simp; omega)) _ rfl rfl ?_
  refine DT_ev rfl (EA_fa_ptr rfl fa27_0 rfl rfl) rfl ?_
  refine DT_store rfl rfl (nf rfl) rfl rfl rfl rfl rfl rfl (by rfl) ts24 rfl rfl ?_
  refine Zd hK4 ?_
  refine Zs fun _ hK7 => ?_
  refine YL ts27 ta27 ?_
  refine Ys ts27 ?_
  refine Zn hK7 ?_
  refine AC_ret ?_
  exact retd_ok hM hcu hdm (.cell rfl rfl rfl rfl rfl rfl ts27 ta27 (by rfl) (by intro h; cases h) .nil) (.agg (.cons (.ref trivial rfl rfl (by simp) (ReadsL_eq (injCs_app (cPA :: r8) ⟨ta, tb, ⟨#[]⟩⟩))) (.cons .d .nil))) ⟨⟨(cPA :: r8) ++ [⟨ta, tb, ⟨#[]⟩⟩], op⟩, rfl, by rw [bulkD_app]; have : bulkC ⟨ta, tb, ⟨#[]⟩⟩ = bulk ta + bulk tb + 0 := rfl; omega, by show ((cPA :: r8) ++ [_]).length ≤ 200; simp only [List.length_append, List.length_singleton]; omega, by show op.length ≤ 41; omega⟩
 ·refine Zs fun _ hK8 => ?_
  refine Ze (Ev_eql rfl rfl) ?_
  refine Za ?_
  refine Zn hK8 ?_
  refine Zc (fun hc2 => ?_) fun hc2 => ?_
  ·refine Zs fun _ hK9 => ?_
   refine Za ?_
   refine Zn hK9 ?_
   refine AC_block ?_
   refine AC_loopS [0, 2, 4] (Nat) (fun q => [(5, i64 ((q : Nat) : Int))]) (fun q => [some ⟨27, LD, [.d zDb]⟩, some ⟨54, LC, (injCs (cPA :: r8 ++ List.replicate q cPA)).map V.d⟩, some ⟨27, LD, [.agg [.one, .one] [.ref LC 1 0 (cPA :: r8 ++ List.replicate q cPA).length, .d (.sl .one (strs op))]]⟩]) (fun q => 121 - q) (fun q => q ≤ 120) (0) ?_ ?_ ?_
   ·exact enterS [some 0, some 1, some 2] rfl rfl (Bx (.cons (.rd .d) .nil) (BxTo_some rfl rfl rfl rfl (VwL_dd (by simp)) (BxTo_some rfl rfl rfl rfl (.cons (.agg (.cons (Vw_refe rfl (by simp)) (.cons (.rd .d) .nil))) .nil) BxTo_nil))) Sl_
   ·exact Nat.zero_le _
   intro q hq
   refine AC_seq fun _ hK10 => ?_
   refine Zs fun _ hK11 => ?_
   refine Zm ?_
   refine Ze (Ev_lss rfl rfl) ?_
   refine Zn hK11 ?_
   refine Zc (fun hc3 => ?_) fun hc3 => ?_
   ·have hL9 : q < 120 := by have := of_decide_eq_true hc3; omega
    refine Zk hK10 ?_
    refine AC_seq fun _ hK12 => ?_
    refine AC_block ?_
    refine AC_draw hT follows [0, 1, 2, 3, 4, 5, 6, 7, 8, 9] (by kernel_rfl) ?_
    refine DT_ev rfl (EA_fa_ptr rfl fa27_0 rfl rfl) rfl ?_
    refine DT_ev rfl (EA_load_ptr rfl rfl rfl rfl rfl rfl ts24 ta24 rfl (fun _ => rfl)) rfl ?_
    refine DT_ev rfl (EA_fa_ptr rfl fa27_0 rfl rfl) rfl ?_
    refine DT_ev rfl (EA_load_ptr rfl rfl rfl rfl rfl rfl ts24 ta24 rfl (fun _ => rfl)) rfl ?_
    refine DT_ev rfl (EA_ix_ref rfl rfl te24 ts54 (by omega) (by (simp; omega))) rfl ?_
    refine DT_ev rfl (EA_load_ptr rfl rfl rfl rfl rfl rfl ts54 ta54 (by rfl) (by intro h; cases h)) rfl ?_
    refine DT_bD (Lay.st [(Lay.st [.one, .one, .one, .one]), (Lay.st [.one, .one, .one, .one]), .one]) rfl rfl te24 ts54 tz54 rfl rfl (by decide) (by decide) (by rfl) rfl ?_
    refine DT_append_sl rfl rfl rfl rfl rfl te24 ts54 tz54 rfl tb54 (by decide) (by decide) rfl (by (simp; done)) (by simp only [lim]; (simp; omega)) _ rfl rfl ?_
    refine DT_ev rfl (EA_fa_ptr rfl fa27_0 rfl rfl) rfl ?_
    refine DT_store rfl rfl (nf rfl) rfl rfl rfl rfl rfl rfl (by rfl) ts24 rfl rfl ?_
    refine Zd hK12 ?_
    refine AC_region ?_
    refine Zm ?_
    refine Ze (Ev_add rfl rfl _ (wrap_id (by omega) (by omega))) ?_
    refine Za ?_
    refine AL_nil ?_
    have hl9 := hL9
    refine closeS (q + 1) [some 0, some 3, some 2] rfl rfl (by show 121 - (q + 1) < 121 - q; omega) (by show q + 1 ≤ 120; omega) (Bx (.cons (.rd .d) .nil) (Bx (VwL_of (injCs_rep (cPA :: r8) cPA q)) (BxTo_some rfl rfl rfl rfl (.cons (.agg (.cons (Vw_refe rfl (by simp; omega)) (.cons (.rd .d) .nil))) .nil) BxTo_nil))) Sl_
   ·refine Zx hK4 ?_
    refine Zs fun _ hK13 => ?_
    refine YL ts27 ta27 ?_
    refine Ys ts27 ?_
    refine Zn hK13 ?_
    refine AC_ret ?_
    exact retd_ok hM hcu hdm (.cell rfl rfl rfl rfl rfl rfl ts27 ta27 (by rfl) (by intro h; cases h) .nil) (.agg (.cons (.ref trivial rfl rfl (by simp) (ReadsL_d _)) (.cons .d .nil))) ⟨⟨(cPA :: r8) ++ List.replicate q cPA, op⟩, rfl, by have := bulkD_rep120 (cPA :: r8) op (q := q) (by omega); omega, by show ((cPA :: r8) ++ List.replicate q cPA).length ≤ 200; simp only [List.length_append, List.length_replicate]; omega, by show op.length ≤ 41; omega⟩
  ·refine Zs fun _ hK14 => ?_
   refine Ze (Ev_eql rfl rfl) ?_
   refine Za ?_
   refine Zn hK14 ?_
   refine Zc (fun hc4 => ?_) fun hc4 => ?_
   ·refine AC_region ?_
    refine AL_makeSlice .one te25 ts9 zo9 tb9 rfl (by decide) (by decide) (by decide) _ rfl rfl ?_
    refine Ya fa27_1 ?_
    refine Ys ts25 ?_
    refine Zn hK4 ?_
    refine Zs fun _ hK15 => ?_
    refine YL ts27 ta27 ?_
    refine Ys ts27 ?_
    refine Zn hK15 ?_
    refine AC_ret ?_
    exact retd_ok hM hcu hdm (.cell rfl rfl rfl rfl rfl rfl ts27 ta27 (by rfl) (by intro h; cases h) .nil) (.agg (.cons (.ref trivial rfl rfl (by simp) (ReadsL_d _)) (.cons (.ref trivial rfl rfl (by simp) (ReadsL_eq (by simp [strs]))) .nil))) ⟨⟨cPA :: r8, List.replicate 41 ⟨#[]⟩⟩, rfl, by have := bulkD_op (cPA :: r8) op 41; omega, by show (cPA :: r8).length ≤ 200; omega, by show (List.replicate 41 _).length ≤ 41; simp⟩
   ·refine Zk hK4 ?_
    refine Zs fun _ hK16 => ?_
    refine YL ts27 ta27 ?_
    refine Ys ts27 ?_
    refine Zn hK16 ?_
    refine AC_ret ?_
    exact retd_ok hM hcu hdm (.cell rfl rfl rfl rfl rfl rfl ts27 ta27 (by rfl) (by intro h; cases h) .nil) (.agg (.cons (.ref trivial rfl rfl (by simp) (ReadsL_d _)) (.cons .d .nil))) ⟨⟨cPA :: r8, op⟩, rfl, by omega, by show (cPA :: r8).length ≤ 200; omega, by show op.length ≤ 41; omega⟩
end Go.Proofs.YtjgliechbnommaaGreatDoor
set_option linter.unusedVariables false
set_option linter.unusedSimpArgs false
namespace Go.Proofs.YtjgliechbnommaaGreatDoor
open Go.Eng
theorem cl60 : Callable Tryz.prog 60 := Zq Tryz.func60
theorem cl61 : Callable Tryz.prog 61 := Zq Tryz.func61
theorem cl62 : Callable Tryz.prog 62 := Zq Tryz.func62
theorem cl95 : Callable Tryz.prog 95 := Zq Tryz.func95
set_option maxHeartbeats 1000000 in
set_option maxRecDepth 4000 in
theorem c_l23Any  : DCall Tryz.prog 62 [] (fun r => ∃ d : Dbt, r = injD d ∧ bulkD d ≤ 300000 ∧ d.cs.length ≤ 200 ∧ d.op.length ≤ 41) := by
 refine DCall_of (n := 9) Tryz.func62 rfl rfl (Nat.le_of_ble_eq_true rfl) fun C0 b bs hdm hbl hT hcu => ?_
 have hM := Mk.refl C0 [b]
 refine Zs fun _ hK1 => ?_
 refine AL_alloc zo27 _ rfl rfl ?_
 refine Zn hK1 ?_
 refine AC_seq fun _ hK2 => ?_
 refine Zs fun _ hK3 => ?_
 refine Zm ?_
 refine AL_dcall hT hcu hbl rfl cl56 (c_onceD 5 (by omega)) rfl rfl rfl fun C1 r1 hR1 hM1 hcu hT => ?_
 have hM := hM.trans hM1 (fun c hc _ => hc)
 obtain ⟨x1, rfl⟩ := hR1
 refine Zn hK3 ?_
 refine Zc (fun hc1 => ?_) fun hc1 => ?_
 ·refine Zs fun _ hK4 => ?_
  refine Zm ?_
  refine AL_dcall hT hcu hbl rfl cl95 (c_l08Any) rfl rfl rfl fun C2 r2 hR2 hM2 hcu hT => ?_
  have hM := hM.trans hM2 (fun c hc _ => hc)
  obtain ⟨⟨cs, op⟩, rfl, hbd, hcl, hop⟩ := hR2
  refine Ys ts27 ?_
  refine Zn hK4 ?_
  refine AC_ret ?_
  exact retd_ok hM hcu hdm (.cell rfl rfl rfl rfl rfl rfl ts27 ta27 (by rfl) (by intro h; cases h) .nil) .d ⟨⟨cs, op⟩, rfl, hbd, hcl, hop⟩
 ·refine Zk hK2 ?_
  refine Zs fun _ hK5 => ?_
  refine Zm ?_
  refine AL_dcall hT hcu hbl rfl cl39 (c_l23Db) rfl rfl rfl fun C3 r3 hR3 hM3 hcu hT => ?_
  have hM := hM.trans hM3 (fun c hc _ => hc)
  obtain ⟨⟨cs, op⟩, rfl, hbd, hcl, hop⟩ := hR3
  simp only at hcl hop
  refine Ys ts27 ?_
  refine Zn hK5 ?_
  refine AC_ret ?_
  exact retd_ok hM hcu hdm (.cell rfl rfl rfl rfl rfl rfl ts27 ta27 (by rfl) (by intro h; cases h) .nil) .d ⟨⟨cs, op⟩, rfl, hbd, by show cs.length ≤ 200; omega, by show op.length ≤ 41; rw [hop]; exact Nat.zero_le _⟩
set_option maxHeartbeats 1000000 in
set_option maxRecDepth 4000 in
theorem c_l23Pred  : DCall Tryz.prog 61 [] (fun r => ∃ p : ByteArray, r = .c (.string p) ∧ p.size ≤ 6) := by
 refine DCall_of (n := 6) Tryz.func61 rfl rfl (Nat.le_of_ble_eq_true rfl) fun C0 b bs hdm hbl hT hcu => ?_
 have hM := Mk.refl C0 [b]
 refine Zs fun _ hK1 => ?_
 refine Za ?_
 refine Zn hK1 ?_
 refine Zs fun _ hK2 => ?_
 refine Zm ?_
 refine AL_bD .one rfl te25 ts9 tz9 rfl rfl (by decide) (by decide) (by rfl) rfl ?_
 refine AL_dcall hT hcu hbl rfl cl83 (c_pick [⟨#[97, 47, 48]⟩, ⟨#[98, 47, 48]⟩, ⟨#[101, 47, 48]⟩, ⟨#[104, 47, 48]⟩, ⟨#[107, 47, 49]⟩, ⟨#[113, 47, 49]⟩, ⟨#[97, 112, 112, 47, 51]⟩, ⟨#[110, 111, 110, 101, 47, 48]⟩, ⟨#[]⟩] (by decide)) rfl rfl rfl fun C1 r1 hR1 hM1 hcu hT => ?_
 have hM := hM.trans hM1 (fun c hc _ => hc)
 obtain ⟨p, hp, rfl⟩ := hR1
 have hp6 := (show ∀ s ∈ ([⟨#[97, 47, 48]⟩, ⟨#[98, 47, 48]⟩, ⟨#[101, 47, 48]⟩, ⟨#[104, 47, 48]⟩, ⟨#[107, 47, 49]⟩, ⟨#[113, 47, 49]⟩, ⟨#[97, 112, 112, 47, 51]⟩, ⟨#[110, 111, 110, 101, 47, 48]⟩, ⟨#[]⟩] : List ByteArray), s.size ≤ 6 by decide) p hp
 refine Za ?_
 refine Zn hK2 ?_
 refine AC_ret ?_
 exact retd_ok hM hcu hdm (.tmp rfl rfl .nil) .d ⟨p, rfl, hp6⟩
set_option maxHeartbeats 1000000 in
set_option maxRecDepth 4000 in
theorem c_l23Draw (bs : List Int) (hbl : bs.length ≤ lim) : PCall Tryz.prog 60 [.sl .one (u8s bs)] (fun rs => ∃ (d : Dbt) (p : ByteArray), rs = [injD d, .c (.string p)] ∧ bulkD d ≤ 300000 ∧ d.cs.length ≤ 200 ∧ d.op.length ≤ 41 ∧ p.size ≤ 6) := by
 refine PCall_of (n := 13) Tryz.func60 rfl rfl (Nat.le_of_ble_eq_true rfl) fun C hdm hT0 => ?_
 have hT := hT0
 have hX0 := CExt.refl C
 refine Zs fun _ hK1 => ?_
 refine AL_alloc zo27 _ rfl rfl ?_
 refine Za ?_
 refine Zn hK1 ?_
 refine Zs fun _ hK2 => ?_
 refine Zm ?_
 refine AL_newcur hT rfl cl40 c_new rfl rfl fun C1 b hx1 hlo hcu => ?_
 have hlo0 := hlo
 have hX1 := hX0.trans hx1
 have hT := hT.ext hx1
 refine Za ?_
 refine Zn hK2 ?_
 refine Zs fun _ hK3 => ?_
 refine Zm ?_
 refine AL_dcall hT hcu hbl rfl cl61 (c_l23Pred) rfl rfl rfl fun C2 r2 hR2 hM2 hcu hT => ?_
 have hX2 := hX1.marked hM2 (fun c hc => .inr (by rw [List.mem_singleton.1 hc]; exact hlo0))
 obtain ⟨p, rfl, hp6⟩ := hR2
 refine Za ?_
 refine Zn hK3 ?_
 refine Zs fun _ hK4 => ?_
 refine Zm ?_
 refine AL_dcall hT hcu hbl rfl cl62 (c_l23Any) rfl rfl rfl fun C3 r3 hR3 hM3 hcu hT => ?_
 have hX3 := hX2.marked hM3 (fun c hc => .inr (by rw [List.mem_singleton.1 hc]; exact hlo0))
 obtain ⟨⟨cs, op⟩, rfl, hbd, hcl, hop⟩ := hR3
 refine Zm ?_
 refine Ys ts27 ?_
 refine Za ?_
 refine Zn hK4 ?_
 refine AC_ret ?_
 exact ret_okX hX3 hdm (.cell rfl rfl rfl rfl rfl rfl ts27 ta27 (by rfl) (by intro h; cases h) (.tmp rfl rfl .nil)) (.cons .d (.cons .d .nil)) ⟨⟨cs, op⟩, p, rfl, hbd, hcl, hop, hp6⟩
set_option maxHeartbeats 1000000 in
set_option maxRecDepth 4000 in
theorem c_drawCallsOf (bs : List Int) (hbl : bs.length ≤ lim) : PCall Tryz.prog 25 [.sl .one (u8s bs)] (fun rs => ∃ (d : Dbt) (p : ByteArray), rs = [injD d, .c (.string p)] ∧ bulkD d ≤ 300000 ∧ d.cs.length ≤ 200 ∧ d.op.length ≤ 41 ∧ p.size ≤ 6) := by
 refine PCall_of (n := 8) Tryz.func25 rfl rfl (Nat.le_of_ble_eq_true rfl) fun C hdm hT0 => ?_
 have hT := hT0
 refine Zs fun _ hK1 => ?_
 refine AL_alloc zo27 _ rfl rfl ?_
 refine Za ?_
 refine Zn hK1 ?_
 refine Zs fun _ hK2 => ?_
 refine Zm ?_
 refine AL_pcall0 hT rfl cl60 (c_l23Draw bs hbl) rfl rfl ?_
 rintro _ ⟨⟨cs, op⟩, p, rfl, hbd, hcl, hop, hp6⟩
 refine Ze (Ev_extract rfl rfl) ?_
 refine Ze (Ev_extract rfl rfl) ?_
 refine Ys ts27 ?_
 refine Za ?_
 refine Zn hK2 ?_
 refine AC_ret ?_
 exact ret_ok hdm (.cell rfl rfl rfl rfl rfl rfl ts27 ta27 (by rfl) (by intro h; cases h) (.tmp rfl rfl .nil)) (.cons .d (.cons .d .nil)) ⟨⟨cs, op⟩, p, rfl, hbd, hcl, hop, hp6⟩
set_option maxHeartbeats 1000000 in
set_option maxRecDepth 4000 in
theorem c_drawCallsIn (bs : List Int) (hbl : bs.length ≤ lim) : PCall Tryz.prog 24 [.sl .one (u8s bs)] (fun rs => ∃ t : T, rs = [inj t] ∧ bulk t ≤ 300000) := by
 refine PCall_of (n := 28) Tryz.func24 rfl rfl (Nat.le_of_ble_eq_true rfl) fun C hdm hT0 => ?_
 have hT := hT0
 have hX0 := CExt.refl C
 refine Zs fun _ hK1 => ?_
 refine AL_alloc zo41 _ rfl rfl ?_
 refine Zn hK1 ?_
 refine Zs fun _ hK2 => ?_
 refine Zm ?_
 refine AL_newcur hT rfl cl40 c_new rfl rfl fun C1 b hx1 hlo hcu => ?_
 have hlo0 := hlo
 have hX1 := hX0.trans hx1
 have hT := hT.ext hx1
 refine Za ?_
 refine Zn hK2 ?_
 refine AC_seq fun _ hK3 => ?_
 refine Zs fun _ hK4 => ?_
 refine Zm ?_
 refine AL_dcall hT hcu hbl rfl cl56 (c_onceD 4 (by omega)) rfl rfl rfl fun C2 r2 hR2 hM2 hcu hT => ?_
 have hX2 := hX1.marked hM2 (fun c hc => .inr (by rw [List.mem_singleton.1 hc]; exact hlo0))
 obtain ⟨x2, rfl⟩ := hR2
 refine Zn hK4 ?_
 refine Zc (fun hc1 => ?_) fun hc1 => ?_
 ·refine Zs fun _ hK5 => ?_
  refine Zm ?_
  refine AL_dcall hT hcu hbl rfl cl57 (c_any03) rfl rfl rfl fun C3 r3 hR3 hM3 hcu hT => ?_
  have hX3 := hX2.marked hM3 (fun c hc => .inr (by rw [List.mem_singleton.1 hc]; exact hlo0))
  obtain ⟨⟨tk, ts, tm, tks⟩, rfl, hba, hoa⟩ := hR3
  refine Ys ts41 ?_
  refine Zn hK5 ?_
  refine AC_ret ?_
  exact ret_okX hX3 hdm (.cell rfl rfl rfl rfl rfl rfl ts41 ta41 (by rfl) (by intro h; cases h) .nil) (.cons .d .nil) ⟨.mk tk ts tm tks, rfl, by omega⟩
 ·refine Zk hK3 ?_
  refine Zs fun _ hK6 => ?_
  refine Zm ?_
  refine AL_dcall hT hcu hbl rfl cl39 (c_l23Db) rfl rfl rfl fun C4 r4 hR4 hM4 hcu hT => ?_
  have hX4 := hX2.marked hM4 (fun c hc => .inr (by rw [List.mem_singleton.1 hc]; exact hlo0))
  obtain ⟨⟨cs, op⟩, rfl, hbd, hcl, hop⟩ := hR4
  simp only at hcl hop
  refine AL_alloc zo27 _ rfl rfl ?_
  refine Ys ts27 ?_
  refine Zn hK6 ?_
  refine AC_seq fun _ hK7 => ?_
  refine Zs fun _ hK8 => ?_
  refine Ya fa27_0 ?_
  refine Yl ts24 ta24 ?_
  refine AL_lim (x := (Operand.tmp 14)) rfl fun hl1 => ?_
  try simp only [injs_length, ints_length, strs_length, injCs_length, u8s_length, List.length_map] at hl1
  refine Ze (Ev_len_injCs te24 rfl) ?_
  refine Ze (Ev_eql rfl rfl) ?_
  refine Zn hK8 ?_
  refine Zc (fun hc2 => ?_) fun hc2 => ?_
  ·refine Zs fun _ hK9 => ?_
   refine AL_fcall0 hT rfl cl58 (c_atom03 ⟨#[116, 114, 117, 101]⟩) rfl rfl ?_
   refine Ys ts41 ?_
   refine Zn hK9 ?_
   refine AC_ret ?_
   exact ret_okX hX4 hdm (.cell rfl rfl rfl rfl rfl rfl ts41 ta41 (by rfl) (by intro h; cases h) .nil) (.cons .d .nil) ⟨.mk 2 ⟨#[116, 114, 117, 101]⟩ 0 [], rfl, by simp [bulk, bulkS_eq, bulkL, ByteArray.size]⟩
  ·have h0 : 0 < cs.length := by have := of_decide_eq_false hc2; omega
   refine Zk hK7 ?_
   refine AC_seq fun _ hK10 => ?_
   refine AC_draw hT follows [0, 1, 2, 3, 4, 5, 6, 7, 8, 9, 10] (by kernel_rfl) ?_
   refine DT_ev rfl (EA_fa_ptr rfl fa27_0 rfl rfl) rfl ?_
   refine DT_ev rfl (EA_load_ptr rfl rfl rfl rfl rfl rfl ts24 ta24 rfl (fun _ => rfl)) rfl ?_
   refine DT_ev rfl (EA_move) rfl ?_
   refine DT_ev rfl (EA_fa_ptr rfl fa27_0 rfl rfl) rfl ?_
   refine DT_ev rfl (EA_load_ptr rfl rfl rfl rfl rfl rfl ts24 ta24 rfl (fun _ => rfl)) rfl ?_
   refine DT_ev rfl (EA_len_injCs te24 rfl) rfl ?_
   refine DT_dcall hT hcu hbl rfl rfl cl59 (c_below (cs.length : Int) (by omega)) rfl rfl rfl (by kernel_rfl) fun C5 r5 hR5 hM5 hcu hT => ?_
   have hX5 := hX4.marked hM5 (fun c hc => .inr (by rw [List.mem_singleton.1 hc]; exact hlo0))
   obtain ⟨x9, rfl, hx9, hy9⟩ := hR5
   have hlt9 : x9.toNat < cs.length := by omega
   obtain ⟨⟨ch, ⟨tk, ts, tm, tks⟩, cf⟩, hu⟩ : ∃ c, cs[x9.toNat]? = some c := ⟨_, List.getElem?_eq_getElem hlt9⟩
   have hu2 := injCs_get hu
   have hb9 := bulkCs_mem (List.mem_of_getElem? hu)
   refine DT_ev rfl (EA_ix_sl rfl rfl te24 ts54 (by omega) (by assumption)) rfl ?_
   refine DT_ev rfl (EA_fa_rp rfl fa54_1 rfl rfl) rfl ?_
   refine DT_ev rfl (EA_load_rp rfl rfl rfl ts41 ta41 (by rfl) (by intro h; cases h)) rfl ?_
   refine DT_store rfl rfl (nf rfl) rfl rfl rfl rfl rfl rfl (by rfl) ts41 rfl rfl ?_
   refine Zd hK10 ?_
   refine AC_ret ?_
   exact ret_okX hX5 hdm (.cell rfl rfl rfl rfl rfl rfl ts41 ta41 (by rfl) (by intro h; cases h) .nil) (.cons .d .nil) ⟨.mk tk ts tm tks, rfl, by have h1 := bulkSs_nn op; have h2 := bulk_nn ch; simp only [bulkC] at hb9; simp only [bulkD] at hbd; omega⟩
set_option maxHeartbeats 1000000 in
set_option maxRecDepth 4000 in
theorem c_drawUnreached (bs : List Int) (hbl : bs.length ≤ lim) : PCall Tryz.prog 26 [.sl .one (u8s bs)] (fun rs => ∃ (d : Dbt) (ps : List ByteArray), rs = [injD d, .sl .one (strs ps)] ∧ bulkD d ≤ 300000 ∧ d.cs.length ≤ 200 ∧ d.op.length ≤ 41 ∧ ps.length ≤ 4 ∧ bulkSs ps ≤ 24) := by
 refine PCall_of (n := 24) Tryz.func26 rfl rfl (Nat.le_of_ble_eq_true rfl) fun C hdm hT0 => ?_
 have hT := hT0
 have hX0 := CExt.refl C
 refine Zs fun _ hK1 => ?_
 refine AL_alloc zo27 _ rfl rfl ?_
 refine Za ?_
 refine Zn hK1 ?_
 refine Zs fun _ hK2 => ?_
 refine Zm ?_
 refine AL_newcur hT rfl cl40 c_new rfl rfl fun C1 b hx1 hlo hcu => ?_
 have hlo0 := hlo
 have hX1 := hX0.trans hx1
 have hT := hT.ext hx1
 refine Za ?_
 refine Zn hK2 ?_
 refine Zs fun _ hK3 => ?_
 refine AL_bV .one rfl te25 ts9 tz9 rfl rfl (by decide) (by decide) (by rfl) _ rfl rfl ?_
 refine Za ?_
 refine Zn hK3 ?_
 refine AC_seq fun _ hK4 => ?_
 refine Zs fun _ hK5 => ?_
 refine Za ?_
 refine Zn hK5 ?_
 refine AC_block ?_
 refine AC_loopX (Nat × List ByteArray) (fun q => [(6, i64 ((q.1 : Nat) : Int)), (5, .ref .one 1 0 q.2.length)]) (fun q => [some ⟨27, LD, [.d zDb]⟩, some ⟨9, .one, (strs q.2).map V.d⟩]) (fun q => 5 - q.1) (fun D q => CExt C D ∧ CurC D b bs ∧ CT Tryz.prog D ∧ (q.1 ≤ 4 ∧ q.2.length ≤ q.1 ∧ bulkSs q.2 ≤ 6 * (q.1 : Int))) [2, 3, 4] ?_ ?_
 ·exact enterX (0, []) [some 0, some 1] rfl rfl ⟨hX1, hcu, hT, Nat.zero_le _, Nat.zero_le _, by decide⟩ (Bx (.cons (.rd .d) .nil) (Bx .nil BxTo_nil)) Sl_
 rintro CL ⟨j, ps⟩ ⟨hX, hcu, hT, hj, hl, hb⟩
 simp only at hj hl hb
 have hT := hT0.ext hX
 refine AC_seq fun _ hK6 => ?_
 refine Zs fun _ hK7 => ?_
 iterate 2 refine Zm ?_
 refine AL_dcall hT hcu hbl rfl cl59 (c_below 4 (by omega)) rfl rfl rfl fun C2 r2 hR2 hM2 hcu hT => ?_
 have hX2 := hX.marked hM2 (fun c hc => .inr (by rw [List.mem_singleton.1 hc]; exact hlo0))
 obtain ⟨x2, rfl, hx2, hy2⟩ := hR2
 refine Ze (Ev_lss rfl rfl) ?_
 refine Zn hK7 ?_
 refine Zc (fun hc1 => ?_) fun hc1 => ?_
 ·have hj9 : j < 4 := by have := of_decide_eq_true hc1; omega
  refine Zk hK6 ?_
  refine AC_seq fun _ hK8 => ?_
  refine AC_block ?_
  refine AC_region ?_
  iterate 2 refine Zm ?_
  refine AL_dcall hT hcu hbl rfl cl61 (c_l23Pred) rfl rfl rfl fun C3 r3 hR3 hM3 hcu hT => ?_
  have hX3 := hX2.marked hM3 (fun c hc => .inr (by rw [List.mem_singleton.1 hc]; exact hlo0))
  obtain ⟨p, rfl, hp6⟩ := hR3
  refine AL_bD .one rfl te25 ts9 tz9 rfl rfl (by decide) (by decide) (by rfl) rfl ?_
  refine AL_append rfl rfl rfl te25 ts9 tz9 rfl tb9 (by decide) (by decide) rfl (by (simp; done)) (Src_sl rfl) (by simp only [lim]; (simp; omega)) _ rfl rfl ?_
  refine Za ?_
  refine Zn hK8 ?_
  refine AC_region ?_
  refine Zm ?_
  refine Ze (Ev_add rfl rfl _ (wrap_id (by omega) (by omega))) ?_
  refine Za ?_
  refine AL_nil ?_
  refine closeX (j + 1, ps ++ [p]) [some 0, some 2] rfl rfl (by show 5 - (j + 1) < 5 - j; omega) ⟨hX3, hcu, hT, by show j + 1 ≤ 4; omega, by show (ps ++ [p]).length ≤ j + 1; rw [List.length_append, List.length_singleton]; omega, by show bulkSs (ps ++ [p]) ≤ 6 * ((j + 1 : Nat) : Int); rw [bulkSs_app]; simp only [bulkSs]; omega⟩ (Bx (.cons (.rd .d) .nil) (BxTo_some rfl rfl rfl rfl (VwL_app (by simp [strs])) BxTo_nil)) Sl_
 ·refine Zx hK4 ?_
  refine Zs fun _ hK9 => ?_
  refine Zm ?_
  refine AL_dcall hT hcu hbl rfl cl62 (c_l23Any) rfl rfl rfl fun C4 r4 hR4 hM4 hcu hT => ?_
  have hX4 := hX2.marked hM4 (fun c hc => .inr (by rw [List.mem_singleton.1 hc]; exact hlo0))
  obtain ⟨⟨cs, op⟩, rfl, hbd, hcl, hop⟩ := hR4
  refine Zm ?_
  refine Ys ts27 ?_
  refine Za ?_
  refine Zn hK9 ?_
  refine AC_ret ?_
  exact ret_okX hX4 hdm (.cell rfl rfl rfl rfl rfl rfl ts27 ta27 (by rfl) (by intro h; cases h) (.tmp rfl rfl .nil)) (.cons .d (.cons (.ref trivial rfl rfl (by simp) (ReadsL_d _)) .nil)) ⟨⟨cs, op⟩, ps, rfl, hbd, hcl, hop, by omega, by omega⟩
end Go.Proofs.YtjgliechbnommaaGreatDoor
set_option linter.unusedVariables false
set_option linter.unusedSimpArgs false
namespace Go.Proofs.YtjgliechbnommaaGreatDoor
open Go.Eng
set_option maxHeartbeats 1000000 in
set_option maxRecDepth 4000 in
theorem c_sameTexts (xs : List ByteArray) : PCall Tryz.prog 22 [.sl .one (strs xs), .sl .one (strs xs)] (· = [.c (.bool true)]) := by
 refine PCall_of (n := 26) Tryz.func22 rfl rfl (Nat.le_of_ble_eq_true rfl) fun C hdm hT0 => ?_
 have hT := hT0
 refine Zs fun _ hK1 => ?_
 refine Za ?_
 refine Zn hK1 ?_
 refine AC_seq fun _ hK2 => ?_
 refine Zs fun _ hK3 => ?_
 refine Zm ?_
 refine AL_lim (x := (Operand.tmp 6)) rfl fun hl1 => ?_
 try simp only [injs_length, ints_length, strs_length, injCs_length, u8s_length, List.length_map] at hl1
 refine Ze (Ev_len_strs te25 rfl) ?_
 refine Zm ?_
 refine AL_lim (x := (Operand.tmp 8)) rfl fun hl2 => ?_
 try simp only [injs_length, ints_length, strs_length, injCs_length, u8s_length, List.length_map] at hl2
 refine Ze (Ev_len_strs te25 rfl) ?_
 refine Ze (Ev_neq rfl rfl) ?_
 refine Zn hK3 ?_
 refine Zc (fun hc1 => ?_) fun hc1 => ?_
 ·simp at hc1
 ·refine Zk hK2 ?_
  refine AC_seq fun _ hK4 => ?_
  refine Zs fun _ hK5 => ?_
  refine Za ?_
  refine Zn hK5 ?_
  refine AC_block ?_
  refine AC_loopS [0, 1] (Nat) (fun j => [(5, i64 j)]) (fun j => []) (fun st => xs.length - st) (fun j => j ≤ xs.length ∧ True) (0) ?_ ?_ ?_
  ·exact enterS [] rfl rfl BxTo_nil Sl_
  ·exact ⟨Nat.zero_le _, trivial⟩
  rintro j ⟨hj, hI⟩
  show AC _ _ _ _ _ (FS [0, 1] _ [(5, i64 j)]) []
  refine AC_seq fun _ hK6 => ?_
  refine Zs fun _ hK7 => ?_
  iterate 2 refine Zm ?_
  refine AL_lim (x := (Operand.tmp 12)) rfl fun hl3 => ?_
  try simp only [injs_length, ints_length, strs_length, injCs_length, u8s_length, List.length_map] at hl3
  refine Ze (Ev_len_strs te25 rfl) ?_
  refine Ze (Ev_lss rfl rfl) ?_
  refine Zn hK7 ?_
  refine Zc (fun hc2 => ?_) fun hc2 => ?_
  ·have hlt : j < xs.length := by simpa using hc2
   obtain ⟨u, hu⟩ : ∃ x, xs[j]? = some x := ⟨_, List.getElem?_eq_getElem hlt⟩
   have hu2 := strs_get hu
   have hdr := drop_get hu
   refine Zk hK6 ?_
   refine AC_seq fun _ hK8 => ?_
   refine AC_block ?_
   refine AC_seq fun _ hK9 => ?_
   refine AC_draw hT follows [0, 1, 2, 3, 4, 5, 6, 7, 8] (by kernel_rfl) ?_
   refine DT_ev rfl (EA_move) rfl ?_
   refine DT_ev rfl (EA_move) rfl ?_
   refine DT_ev rfl (EA_ix_sl rfl rfl te25 ts9 (by omega) (by assumption)) rfl ?_
   refine DT_ev rfl (EA_load_rp rfl rfl rfl ts9 ta9 rfl (fun _ => rfl)) rfl ?_
   refine DT_ev rfl (EA_move) rfl ?_
   refine DT_ev rfl (EA_move) rfl ?_
   refine DT_ev rfl (EA_ix_sl rfl rfl te25 ts9 (by omega) (by assumption)) rfl ?_
   refine DT_ev rfl (EA_load_rp rfl rfl rfl ts9 ta9 rfl (fun _ => rfl)) rfl ?_
   refine DT_ev rfl (EA_sneq rfl rfl) rfl ?_
   refine Zd hK9 ?_
   refine Zc (fun hc3 => ?_) fun hc3 => ?_
   ·simp at hc3
   ·refine Zk hK8 ?_
    refine AC_region ?_
    refine Zm ?_
    refine Ze (Ev_add rfl rfl _ (wrap_id (by omega) (by omega))) ?_
    refine Za ?_
    refine AL_nil ?_
    refine closeS (j + 1) [] rfl rfl (by show xs.length - (j + 1) < xs.length - j; omega) ⟨hlt, ?_⟩ BxTo_nil Sl_
    trivial
  ·have hj2 : j = xs.length := by
    have : ¬ j < xs.length := by simpa using hc2
    omega
   subst hj2
   refine Zx hK4 ?_
   refine Zs fun _ hK10 => ?_
   refine Za ?_
   refine Zn hK10 ?_
   refine AC_ret ?_
   exact Zr hdm rfl
end Go.Proofs.YtjgliechbnommaaGreatDoor
set_option linter.unusedVariables false
set_option linter.unusedSimpArgs false
namespace Go.Eng
def cnt (X : List ByteArray) : List ByteArray → Nat
 | [] => 0
 | q :: r => (if hasS X q = true then 1 else 0) + cnt X r
def lvC (d : Dbt) (ps : List ByteArray) : List Int := ps.map fun p => ((cnt (reachedFrom d p) ps : Nat) : Int)
structure LevelsLaw (P : List ByteArray) (a : List Int × Bool) (R K : ByteArray → List ByteArray) : Prop where
 f1 : a.2 = false → ∃ p ∈ P, hasS (R p) p = true
 f2 : a.2 = true → a.1.length = P.length
 f3 : a.2 = true → ∀ (i k : Nat) (p q : ByteArray), P[i]? = some p → P[k]? = some q → hasS (K p) q = true → ¬ a.1.getD i 0 < a.1.getD k 0
end Go.Eng
set_option linter.unusedVariables false
set_option linter.unusedSimpArgs false
namespace Go.Proofs.YtjgliechbnommaaGreatDoor
open Go.Eng
set_option maxHeartbeats 1000000 in
set_option maxRecDepth 4000 in
theorem c_big (bs : List Int) : PCall Tryz.prog 7 [.sl .one (u8s bs)] (· = [.c (.bool (decide ((bs.length : Int) > 1048576)))]) := by
 refine PCall_of (n := 6) Tryz.func7 rfl rfl (Nat.le_of_ble_eq_true rfl) fun C hdm hT0 => ?_
 have hT := hT0
 refine Zs fun _ hK1 => ?_
 refine Za ?_
 refine Zn hK1 ?_
 refine Zs fun _ hK2 => ?_
 refine Zm ?_
 refine AL_lim (x := (Operand.tmp 3)) rfl fun hl1 => ?_
 try simp only [injs_length, ints_length, strs_length, injCs_length, u8s_length, List.length_map] at hl1
 refine Ze (Ev_len_u8s te22 rfl) ?_
 refine Ze (Ev_gtr rfl rfl) ?_
 refine Za ?_
 refine Zn hK2 ?_
 refine AC_ret ?_
 exact Zr hdm rfl
end Go.Proofs.YtjgliechbnommaaGreatDoor
set_option linter.unusedVariables false
set_option linter.unusedSimpArgs false
namespace Go.Proofs.YtjgliechbnommaaGreatDoor
open Go.Eng
theorem cl12 : Callable Tryz.prog 12 := Zq Tryz.func12
theorem cl7 : Callable Tryz.prog 7 := Zq Tryz.func7
end Go.Proofs.YtjgliechbnommaaGreatDoor
