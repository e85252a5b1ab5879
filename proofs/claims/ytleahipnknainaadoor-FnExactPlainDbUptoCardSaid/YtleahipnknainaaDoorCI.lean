/- Contracts of functions. -/
import Derived.Test.YtleahipnknainaaDoorMt
import Derived.Test.YtleahipnknainaaDoorOk
import Derived.Test.YtleahipnknainaaDoorWn
import Derived.Test.YtleahipnknainaaDoorEng27
import Derived.Test.YtleahipnknainaaDoorCs
import Derived.Test.YtleahipnknainaaDoorProg
import Derived.KernelRfl
import Derived.Test.YtleahipnknainaaDoorCA
import Derived.Test.YtleahipnknainaaDoorCC
import Derived.Test.YtleahipnknainaaDoorCF
set_option linter.unusedVariables false
set_option linter.unusedSimpArgs false
namespace Go.Proofs.YtleahipnknainaaDoor
open Go.Eng

theorem cl109 : Callable Tryd.prog 109 := Callable_of Tryd.func109 (by kernel_rfl) (by kernel_rfl)
theorem cl63 : Callable Tryd.prog 63 := Callable_of Tryd.func63 (by kernel_rfl) (by kernel_rfl)
theorem cl73 : Callable Tryd.prog 73 := Callable_of Tryd.func73 (by kernel_rfl) (by kernel_rfl)
theorem tpl68 : tyPlaces Tryd.prog 68 = some (layPlaces 0 [(Lay.st [.one, .one, .one, .one]), (Lay.st [.one, .one, .one, .one]), .one]) := by kernel_rfl

set_option maxHeartbeats 1000000 in
set_option maxRecDepth 4000 in
theorem c_copyClause (c : Cl) : PCall Tryd.prog 109 [injC c] (· = [injC c]) := by
  obtain ⟨h, b, f⟩ := c
  refine PCall_of (n := 12) Tryd.func109 rfl rfl (Nat.le_of_ble_eq_true rfl) fun C hdm hT0 => ?_
  have hT := hT0
  refine AC_seq fun K1 hK1 => ?_
  refine AC_region ?_
  refine AL_box (Lay.st [(Lay.st [.one, .one, .one, .one]), (Lay.st [.one, .one, .one, .one]), .one]) (nf rfl) rfl (by first | rfl | simp [Lay.len, Lay.lens]) _ rfl rfl ?_
  refine AL_alloc zo68 _ rfl rfl ?_
  refine AL_nil ?_
  refine hK1 _ _ _ ?_
  refine AC_seq fun K2 hK2 => ?_
  refine AC_draw hT follows [0, 1, 2, 3, 4, 5, 6, 7, 8, 9] (by kernel_rfl) ?_
  first | refine DT_ev rfl (EA_fa_ptr rfl fa68_0 rfl rfl) rfl ?_ | refine DT_ev rfl (EA_fa_rp rfl fa68_0 rfl rfl) rfl ?_
  first | refine DT_ev rfl (EA_load_ptr rfl rfl rfl rfl rfl rfl ts45 ta45 (by first | rfl | simp) (by intro h; cases h)) rfl ?_ | refine DT_ev rfl (EA_load_rp rfl rfl rfl ts45 ta45 (by first | rfl | simp) (by intro h; cases h)) rfl ?_
  refine DT_fcall0 rfl rfl cl73 (c_copyTerm h) rfl rfl ?_
  first | refine DT_ev rfl (EA_fa_ptr rfl fa68_1 rfl rfl) rfl ?_ | refine DT_ev rfl (EA_fa_rp rfl fa68_1 rfl rfl) rfl ?_
  first | refine DT_ev rfl (EA_load_ptr rfl rfl rfl rfl rfl rfl ts45 ta45 (by first | rfl | simp) (by intro h; cases h)) rfl ?_ | refine DT_ev rfl (EA_load_rp rfl rfl rfl ts45 ta45 (by first | rfl | simp) (by intro h; cases h)) rfl ?_
  refine DT_fcall0 rfl rfl cl73 (c_copyTerm b) rfl rfl ?_
  first | refine DT_ev rfl (EA_fa_ptr rfl fa68_2 rfl rfl) rfl ?_ | refine DT_ev rfl (EA_fa_rp rfl fa68_2 rfl rfl) rfl ?_
  first | refine DT_ev rfl (EA_load_ptr rfl rfl rfl rfl rfl rfl ts9 ta9 rfl (fun _ => rfl)) rfl ?_ | refine DT_ev rfl (EA_load_rp rfl rfl rfl ts9 ta9 rfl (fun _ => rfl)) rfl ?_
  refine DT_ev rfl (EA_build (fs := [(Lay.st [.one, .one, .one, .one]), (Lay.st [.one, .one, .one, .one]), .one]) (zs := [.agg [.one, .one, .one, .one] [.c (.int .i64 0), .c (.string ⟨#[]⟩), .c (.int .i64 0), .c (.slice none 0 0)], .agg [.one, .one, .one, .one] [.c (.int .i64 0), .c (.string ⟨#[]⟩), .c (.int .i64 0), .c (.slice none 0 0)], .c (.string ⟨#[]⟩)]) tz68 rfl tpl68 (.cons rfl rfl (by first | rfl | (simp; done) | (simp [inj_lenL, Lay.len, Lay.lens]; done)) (.cons rfl rfl (by first | rfl | (simp; done) | (simp [inj_lenL, Lay.len, Lay.lens]; done)) (.cons rfl rfl (by first | rfl | (simp; done) | (simp [inj_lenL, Lay.len, Lay.lens]; done)) .nil)))) rfl ?_
  first | refine DT_store rfl rfl (nf rfl) rfl rfl rfl rfl rfl rfl (by first | rfl | simp [Lay.len, Lay.lens]) ts68 rfl rfl ?_ | refine DT_store rfl rfl (nf rfl) rfl rfl rfl hes rfl rfl (by first | rfl | simp [Lay.len, Lay.lens]) ts68 rfl rfl ?_
  refine DTi.nil ?_
  refine hK2 _ _ _ ?_
  refine AC_ret ?_
  exact ret_ok hdm (.cell rfl rfl rfl rfl rfl rfl ts68 ta68 (by first | rfl | simp) (by intro h; cases h) .nil) (.cons (by first | exact .d | exact .agg (.cons .d (.cons .d (.cons .d .nil)))) .nil) rfl

set_option maxHeartbeats 1000000 in
set_option maxRecDepth 4000 in
theorem c_clausesOf (d : Dbt) (p : ByteArray) (hb : bulkD d ≤ 1099511627776) : PCall Tryd.prog 84 [injD d, .c (.string p)] (· = [.sl LC (injCs (clsOf d.cs p))]) := by
  obtain ⟨cs, op⟩ := d
  obtain ⟨hnc, hbc, hno, hbo⟩ := bulkD_bd hb
  refine PCall_of (n := 27) Tryd.func84 rfl rfl (Nat.le_of_ble_eq_true rfl) fun C hdm hT0 => ?_
  have hT := hT0
  refine AC_seq fun K1 hK1 => ?_
  refine AC_region ?_
  refine AL_box (Lay.st [.one, .one]) (nf rfl) rfl (by first | rfl | simp [Lay.len, Lay.lens]) _ rfl rfl ?_
  refine AL_ev (Ev_assign) rfl ?_
  refine AL_nil ?_
  refine hK1 _ _ _ ?_
  refine AC_seq fun K2 hK2 => ?_
  refine AC_region ?_
  refine AL_ev (Ev_assign) rfl ?_
  refine AL_nil ?_
  refine hK2 _ _ _ ?_
  refine AC_seq fun K3 hK3 => ?_
  refine AC_seq fun K4 hK4 => ?_
  refine AC_region ?_
  first | refine AL_ev (Ev_fa_ptr rfl fa30_0 rfl rfl) rfl ?_ | refine AL_ev (Ev_fa_rp rfl fa30_0 rfl rfl) rfl ?_
  first | refine AL_ev (Ev_load_ptr rfl rfl rfl rfl rfl rfl ts28 ta28 rfl (fun _ => rfl)) rfl ?_ | refine AL_ev (Ev_load_rp rfl rfl rfl ts28 ta28 rfl (fun _ => rfl)) rfl ?_
  first | refine AL_lim (x := (Operand.tmp 9)) rfl fun hl1 => ?_ | refine AL_limB (x := (Operand.tmp 9)) rfl rfl (by first | rfl | (simp; done) | (simp; omega)) fun hl1 => ?_ | have hl1 := True.intro
  try simp only [injs_length, ints_length, strs_length, injCs_length, List.length_map] at hl1
  first | refine AL_ev (Ev_len_injCs te28 rfl) rfl ?_ | refine AL_ev (Ev_len_sl te28 rfl) rfl ?_ | refine AL_ev (Ev_len_ref te28 rfl) rfl ?_ | refine AL_ev (Ev_len_nil te28 rfl) rfl ?_ | refine AL_ev (Ev_len_c te28 rfl) rfl ?_
  refine AL_ev (Ev_move) rfl ?_
  refine AL_nil ?_
  refine hK4 _ _ _ ?_
  refine AC_block ?_
  refine AC_loopS [1, 9, 10] (Nat × List Cl) (fun ⟨j, out⟩ => [(11, i64 j), (5, .ref LC 0 0 (injCs out).length)]) (fun ⟨j, out⟩ => [some ⟨68, LC, (injCs out).map V.d⟩]) (fun st => cs.length - st.1) (fun ⟨j, out⟩ => j ≤ cs.length ∧ (clsOf cs p = out ++ clsOf (cs.drop j) p ∧ out.length ≤ j)) ((0, [])) ?_ ?_ ?_
  · skip
    refine Wk.then (Wk_nil_slot 5 68 LC rfl 1 rfl ?_)
    exact enterS [some 1] rfl rfl (BxTo_some rfl rfl rfl rfl (by first | exact .nil | exact VwL_dd (by first | rfl | simp) | exact VwL_app (by first | rfl | simp) | exact VwL_of (by first | rfl | simp)) BxTo_nil) (SlTo_cons (by first | exact .rd .d | exact Vw_int (by first | rfl | assumption | omega | (simp; done) | (simp; omega)) | exact Vw_c (by first | rfl | (simp; done) | simp_all) | exact .any) (SlTo_cons (Vw_refe rfl (by first | rfl | simp)) (SlTo_cons (by first | exact .rd .d | exact .any) (SlTo_cons (by first | exact .rd .d | exact .any) (SlTo_cons (by first | exact .rd .d | exact .any) SlTo_nil)))))
  · skip
    exact ⟨Nat.zero_le _, by simp, by simp⟩
  rintro ⟨j, out⟩ ⟨hj, ⟨hI, ho⟩⟩
  show AC _ _ _ _ _ (FS [1, 9, 10] _ [(11, i64 j), (5, .ref LC 0 0 (injCs out).length)]) [some ⟨68, LC, (injCs out).map V.d⟩]
  refine AC_seq fun K5 hK5 => ?_
  refine AC_region ?_
  refine AL_ev (Ev_lss rfl rfl) rfl ?_
  refine AL_nil ?_
  refine hK5 _ _ _ ?_
  refine AC_seq fun K6 hK6 => ?_
  refine AC_cond rfl (fun hc1 => ?_) (fun hc1 => ?_)
  · skip
    have hlt : j < cs.length := by simpa using hc1
    obtain ⟨u, hu⟩ : ∃ x, cs[j]? = some x := ⟨_, List.getElem?_eq_getElem hlt⟩
    have hu2 := injCs_get hu
    have hdr := drop_get hu
    obtain ⟨hbu, _, _⟩ := bulkCs_bd (List.mem_of_getElem? hu) hbc
    rw [hdr, clsOf] at hI
    refine AC_skip ?_
    refine hK6 _ _ _ ?_
    refine AC_seq fun K7 hK7 => ?_
    refine AC_block ?_
    refine AC_seq fun K8 hK8 => ?_
    refine AC_region ?_
    first | refine AL_ev (Ev_ix_sl rfl rfl te28 ts68 (by omega) (by assumption)) rfl ?_ | refine AL_ev (Ev_ix_ref rfl rfl te28 ts68 (by omega) (by first | omega | (simp; omega))) rfl ?_
    first | refine AL_ev (Ev_load_ptr rfl rfl rfl rfl rfl rfl ts68 ta68 (by first | rfl | simp) (by intro h; cases h)) rfl ?_ | refine AL_ev (Ev_load_rp rfl rfl rfl ts68 ta68 (by first | rfl | simp) (by intro h; cases h)) rfl ?_
    refine AL_alloc zo68 _ rfl rfl ?_
    first | refine AL_store rfl (nf rfl) rfl rfl rfl rfl rfl rfl (by first | rfl | simp [Lay.len, Lay.lens]) ts68 rfl rfl ?_ | refine AL_store rfl (nf rfl) rfl rfl rfl hes rfl rfl (by first | rfl | simp [Lay.len, Lay.lens]) ts68 rfl rfl ?_
    refine AL_nil ?_
    refine hK8 _ _ _ ?_
    refine AC_seq fun K9 hK9 => ?_
    refine AC_region ?_
    first | refine AL_ev (Ev_fa_ptr rfl fa68_0 rfl rfl) rfl ?_ | refine AL_ev (Ev_fa_rp rfl fa68_0 rfl rfl) rfl ?_
    first | refine AL_ev (Ev_load_ptr rfl rfl rfl rfl rfl rfl ts45 ta45 (by first | rfl | simp) (by intro h; cases h)) rfl ?_ | refine AL_ev (Ev_load_rp rfl rfl rfl ts45 ta45 (by first | rfl | simp) (by intro h; cases h)) rfl ?_
    refine AL_fcall0 hT rfl cl63 (c_predOf u.h (by omega)) rfl rfl ?_
    refine AL_ev (Ev_move) rfl ?_
    refine AL_ev (Ev_seql rfl rfl) rfl ?_
    refine AL_nil ?_
    refine hK9 _ _ _ ?_
    refine AC_cond rfl (fun hc2 => ?_) (fun hc2 => ?_)
    · skip
      refine AC_region ?_
      refine AL_ev (Ev_move) rfl ?_
      first | refine AL_ev (Ev_load_ptr rfl rfl rfl rfl rfl rfl ts68 ta68 (by first | rfl | simp) (by intro h; cases h)) rfl ?_ | refine AL_ev (Ev_load_rp rfl rfl rfl ts68 ta68 (by first | rfl | simp) (by intro h; cases h)) rfl ?_
      refine AL_fcall0 hT rfl cl109 (c_copyClause u) rfl rfl ?_
      first | refine AL_bD (Lay.st [(Lay.st [.one, .one, .one, .one]), (Lay.st [.one, .one, .one, .one]), .one]) rfl te28 ts68 tz68 rfl rfl (by decide) (by decide) (by first | rfl | simp [lenDs, goodVs, goodV, V.known, Lay.len, Lay.lens]) rfl ?_ | refine AL_bV (Lay.st [(Lay.st [.one, .one, .one, .one]), (Lay.st [.one, .one, .one, .one]), .one]) rfl te28 ts68 tz68 rfl rfl (by decide) (by decide) (by first | rfl | simp [lenDs, goodVs, goodV, V.known, Lay.len, Lay.lens]) _ rfl rfl ?_
      first | refine AL_append rfl rfl rfl te28 ts68 tz68 rfl tb68 (by decide) (by decide) rfl (by first | rfl | (simp; done) | (simp; omega)) (Src_sl rfl) (by simp only [lim]; first | omega | (simp; done) | (simp; omega)) _ rfl rfl ?_ | refine AL_append rfl rfl rfl te28 ts68 tz68 rfl tb68 (by decide) (by decide) rfl (by first | rfl | (simp; done) | (simp; omega)) (Src_ref rfl rfl rfl (by first | rfl | (simp; done) | (simp; omega))) (by simp only [lim]; first | omega | (simp; done) | (simp; omega)) _ rfl rfl ?_ | refine AL_append rfl rfl rfl te28 ts68 tz68 rfl tb68 (by decide) (by decide) rfl (by first | rfl | (simp; done) | (simp; omega)) (Src_nil rfl) (by simp only [lim]; first | omega | (simp; done) | (simp; omega)) _ rfl rfl ?_
      refine AL_ev (Ev_assign) rfl ?_
      refine AL_nil ?_
      refine hK7 _ _ _ ?_
      refine AC_region ?_
      first | refine AL_ev (Ev_add rfl rfl _ (wrap_id (by first | omega | (simp; omega)) (by first | omega | (simp; omega)))) rfl ?_ | refine AL_ev (Ev_add rfl rfl _ rfl) rfl ?_
      refine AL_ev (Ev_move) rfl ?_
      refine AL_nil ?_
      refine closeS (j + 1, out ++ [u]) [some 2] rfl rfl (by show cs.length - (j + 1) < cs.length - j; omega) ⟨hlt, ?_⟩ (BxTo_some rfl rfl rfl rfl (by first | exact VwL_app (by first | rfl | (simp [injCs]; done)) | exact VwL_dd (by first | rfl | (simp [injCs]; done)) | exact VwL_of (by first | rfl | (simp [injCs]; done))) BxTo_nil) (SlTo_cons (by first | exact .rd .d | exact Vw_int (by first | rfl | assumption | omega | (simp; done) | (simp; omega)) | exact Vw_c (by first | rfl | (simp; done) | simp_all) | exact .any) (SlTo_cons (Vw_refe rfl (by first | rfl | simp | (simp; omega))) (SlTo_cons (by first | exact .rd .d | exact .any) (SlTo_cons (by first | exact .rd .d | exact .any) (SlTo_cons (by first | exact .rd .d | exact .any) SlTo_nil)))))
      exact ⟨by rw [hI, ite_dec hc2]; simp, by simp; omega⟩
    · skip
      refine AC_skip ?_
      refine hK7 _ _ _ ?_
      refine AC_region ?_
      first | refine AL_ev (Ev_add rfl rfl _ (wrap_id (by first | omega | (simp; omega)) (by first | omega | (simp; omega)))) rfl ?_ | refine AL_ev (Ev_add rfl rfl _ rfl) rfl ?_
      refine AL_ev (Ev_move) rfl ?_
      refine AL_nil ?_
      refine closeS (j + 1, out) [some 0] rfl rfl (by show cs.length - (j + 1) < cs.length - j; omega) ⟨hlt, ?_⟩ (BxTo_some rfl rfl rfl rfl (by first | exact VwL_app (by first | rfl | (simp [injCs]; done)) | exact VwL_dd (by first | rfl | (simp [injCs]; done)) | exact VwL_of (by first | rfl | (simp [injCs]; done))) BxTo_nil) (SlTo_cons (by first | exact .rd .d | exact Vw_int (by first | rfl | assumption | omega | (simp; done) | (simp; omega)) | exact Vw_c (by first | rfl | (simp; done) | simp_all) | exact .any) (SlTo_cons (Vw_refe rfl (by first | rfl | simp | (simp; omega))) (SlTo_cons (by first | exact .rd .d | exact .any) (SlTo_cons (by first | exact .rd .d | exact .any) (SlTo_cons (by first | exact .rd .d | exact .any) SlTo_nil)))))
      exact ⟨by rw [hI, ite_decn hc2], by omega⟩
  · skip
    have hj2 : j = cs.length := by
      have : ¬ j < cs.length := by simpa using hc1
      omega
    subst hj2
    rw [List.drop_length] at hI
    refine AC_exit ?_
    refine hK3 _ _ _ ?_
    refine AC_seq fun K10 hK10 => ?_
    refine AC_region ?_
    refine AL_ev (Ev_move) rfl ?_
    refine AL_ev (Ev_assign) rfl ?_
    refine AL_nil ?_
    refine hK10 _ _ _ ?_
    refine AC_ret ?_
    refine ret_ok hdm (.tmp rfl rfl .nil) (.cons (.ref trivial rfl rfl (by simp) (ReadsL_d _)) .nil) ?_
    rw [clsOf, List.append_nil] at hI
    rw [hI]

end Go.Proofs.YtleahipnknainaaDoor
