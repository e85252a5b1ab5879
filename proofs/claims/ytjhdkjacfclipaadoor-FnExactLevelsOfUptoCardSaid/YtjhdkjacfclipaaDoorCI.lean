/- Contracts of functions. -/
import Derived.Test.YtjhdkjacfclipaaDoorMt
import Derived.Test.YtjhdkjacfclipaaDoorOk
import Derived.Test.YtjhdkjacfclipaaDoorWn
import Derived.Test.YtjhdkjacfclipaaDoorEng27
import Derived.Test.YtjhdkjacfclipaaDoorCs
import Derived.Test.YtjhdkjacfclipaaDoorProg
import Derived.KernelRfl
import Derived.Test.YtjhdkjacfclipaaDoorCA
import Derived.Test.YtjhdkjacfclipaaDoorCF
import Derived.Test.YtjhdkjacfclipaaDoorCG
set_option linter.unusedVariables false
set_option linter.unusedSimpArgs false
namespace Go.Proofs.YtjhdkjacfclipaaDoor
open Go.Eng

theorem cl48 : Callable Tryd.prog 48 := Callable_of Tryd.func48 (by kernel_rfl) (by kernel_rfl)
theorem cl49 : Callable Tryd.prog 49 := Callable_of Tryd.func49 (by kernel_rfl) (by kernel_rfl)
theorem cl61 : Callable Tryd.prog 61 := Callable_of Tryd.func61 (by kernel_rfl) (by kernel_rfl)

set_option maxHeartbeats 1000000 in
set_option maxRecDepth 4000 in
theorem c_l34Clause (c : Cl) : PCall Tryd.prog 61 [injC c] (· = [injC c]) := by
  obtain ⟨h, b, f⟩ := c
  refine PCall_of (n := 12) Tryd.func61 rfl rfl (Nat.le_of_ble_eq_true rfl) fun C hdm hT0 => ?_
  have hT := hT0
  refine AC_seq fun K1 hK1 => ?_
  refine AC_region ?_
  refine AL_box (Lay.st [(Lay.st [.one, .one, .one, .one]), (Lay.st [.one, .one, .one, .one]), .one]) (nf rfl) rfl (by first | rfl | simp [Lay.len, Lay.lens]) _ rfl rfl ?_
  refine AL_alloc zo50 _ rfl rfl ?_
  refine AL_nil ?_
  refine hK1 _ _ _ ?_
  refine AC_seq fun K2 hK2 => ?_
  refine AC_region ?_
  first | refine AL_ev (Ev_fa_ptr rfl fa50_0 rfl rfl) rfl ?_ | refine AL_ev (Ev_fa_rp rfl fa50_0 rfl rfl) rfl ?_
  first | refine AL_ev (Ev_load_ptr rfl rfl rfl rfl rfl rfl ts48 ta48 (by first | rfl | simp) (by intro h; cases h)) rfl ?_ | refine AL_ev (Ev_load_rp rfl rfl rfl ts48 ta48 (by first | rfl | simp) (by intro h; cases h)) rfl ?_
  refine AL_fcall0 hT rfl cl66 (c_l34Term h) rfl rfl ?_
  first | refine AL_ev (Ev_fa_ptr rfl fa50_0 rfl rfl) rfl ?_ | refine AL_ev (Ev_fa_rp rfl fa50_0 rfl rfl) rfl ?_
  first | refine AL_store rfl (nf rfl) rfl rfl rfl rfl rfl rfl (by first | rfl | simp [Lay.len, Lay.lens]) ts48 rfl rfl ?_ | refine AL_store rfl (nf rfl) rfl rfl rfl hes rfl rfl (by first | rfl | simp [Lay.len, Lay.lens]) ts48 rfl rfl ?_
  refine AL_nil ?_
  refine hK2 _ _ _ ?_
  refine AC_seq fun K3 hK3 => ?_
  refine AC_region ?_
  first | refine AL_ev (Ev_fa_ptr rfl fa50_1 rfl rfl) rfl ?_ | refine AL_ev (Ev_fa_rp rfl fa50_1 rfl rfl) rfl ?_
  first | refine AL_ev (Ev_load_ptr rfl rfl rfl rfl rfl rfl ts48 ta48 (by first | rfl | simp) (by intro h; cases h)) rfl ?_ | refine AL_ev (Ev_load_rp rfl rfl rfl ts48 ta48 (by first | rfl | simp) (by intro h; cases h)) rfl ?_
  refine AL_fcall0 hT rfl cl66 (c_l34Term b) rfl rfl ?_
  first | refine AL_ev (Ev_fa_ptr rfl fa50_1 rfl rfl) rfl ?_ | refine AL_ev (Ev_fa_rp rfl fa50_1 rfl rfl) rfl ?_
  first | refine AL_store rfl (nf rfl) rfl rfl rfl rfl rfl rfl (by first | rfl | simp [Lay.len, Lay.lens]) ts48 rfl rfl ?_ | refine AL_store rfl (nf rfl) rfl rfl rfl hes rfl rfl (by first | rfl | simp [Lay.len, Lay.lens]) ts48 rfl rfl ?_
  refine AL_nil ?_
  refine hK3 _ _ _ ?_
  refine AC_seq fun K4 hK4 => ?_
  refine AC_region ?_
  first | refine AL_ev (Ev_load_ptr rfl rfl rfl rfl rfl rfl ts50 ta50 (by first | rfl | simp) (by intro h; cases h)) rfl ?_ | refine AL_ev (Ev_load_rp rfl rfl rfl ts50 ta50 (by first | rfl | simp) (by intro h; cases h)) rfl ?_
  first | refine AL_store rfl (nf rfl) rfl rfl rfl rfl rfl rfl (by first | rfl | simp [Lay.len, Lay.lens]) ts50 rfl rfl ?_ | refine AL_store rfl (nf rfl) rfl rfl rfl hes rfl rfl (by first | rfl | simp [Lay.len, Lay.lens]) ts50 rfl rfl ?_
  refine AL_nil ?_
  refine hK4 _ _ _ ?_
  refine AC_ret ?_
  exact ret_ok hdm (.cell rfl rfl rfl rfl rfl rfl ts50 ta50 (by first | rfl | simp) (by intro h; cases h) .nil) (.cons (by first | exact .d | exact .agg (.cons .d (.cons .d (.cons .d .nil)))) .nil) rfl

set_option maxHeartbeats 1000000 in
set_option maxRecDepth 4000 in
theorem c_l34Clauses (cs : List Cl) : PCall Tryd.prog 49 [.sl LC (injCs cs)] (· = [.sl LC (injCs cs)]) := by
  refine PCall_of (n := 21) Tryd.func49 rfl rfl (Nat.le_of_ble_eq_true rfl) fun C hdm hT0 => ?_
  have hT := hT0
  refine AC_seq fun K1 hK1 => ?_
  refine AC_region ?_
  refine AL_ev (Ev_assign) rfl ?_
  refine AL_nil ?_
  refine hK1 _ _ _ ?_
  refine AC_seq fun K2 hK2 => ?_
  refine AC_region ?_
  refine AL_bV (Lay.st [(Lay.st [.one, .one, .one, .one]), (Lay.st [.one, .one, .one, .one]), .one]) rfl te30 ts50 tz50 rfl rfl (by decide) (by decide) (by first | rfl | simp [lenDs, goodVs, goodV, V.known, Lay.len, Lay.lens]) _ rfl rfl ?_
  refine AL_ev (Ev_assign) rfl ?_
  refine AL_nil ?_
  refine hK2 _ _ _ ?_
  refine AC_seq fun K3 hK3 => ?_
  refine AC_seq fun K4 hK4 => ?_
  refine AC_region ?_
  refine AL_ev (Ev_assign) rfl ?_
  refine AL_nil ?_
  refine hK4 _ _ _ ?_
  refine AC_block ?_
  refine AC_loopS [0] (Nat × List Cl) (fun ⟨j, out⟩ => [(4, i64 j), (3, .ref LC 0 0 (injCs out).length)]) (fun ⟨j, out⟩ => [some ⟨50, LC, (injCs out).map V.d⟩]) (fun st => cs.length - st.1) (fun ⟨j, out⟩ => j ≤ cs.length ∧ (cs = out ++ cs.drop j ∧ out.length ≤ j)) ((0, [])) ?_ ?_ ?_
  · skip
    exact enterS [some 0] rfl rfl (BxTo_some rfl rfl rfl rfl (by first | exact .nil | exact VwL_dd (by first | rfl | simp) | exact VwL_app (by first | rfl | simp) | exact VwL_of (by first | rfl | simp)) BxTo_nil) (SlTo_cons (by first | exact .rd .d | exact Vw_int (by first | rfl | assumption | omega | (simp; done) | (simp; omega)) | exact Vw_c (by first | rfl | (simp; done) | simp_all) | exact .any) (SlTo_cons (Vw_refe rfl (by first | rfl | simp)) (SlTo_cons (by first | exact .rd .d | exact .any) SlTo_nil)))
  · skip
    exact ⟨Nat.zero_le _, by simp, by simp⟩
  rintro ⟨j, out⟩ ⟨hj, ⟨hI, ho⟩⟩
  show AC _ _ _ _ _ (FS [0] _ [(4, i64 j), (3, .ref LC 0 0 (injCs out).length)]) [some ⟨50, LC, (injCs out).map V.d⟩]
  refine AC_seq fun K5 hK5 => ?_
  refine AC_seq fun K6 hK6 => ?_
  refine AC_region ?_
  refine AL_ev (Ev_move) rfl ?_
  refine AL_ev (Ev_move) rfl ?_
  first | refine AL_lim (x := (Operand.tmp 7)) rfl fun hl1 => ?_ | refine AL_limB (x := (Operand.tmp 7)) rfl rfl (by first | rfl | (simp; done) | (simp; omega)) fun hl1 => ?_ | have hl1 := True.intro
  try simp only [injs_length, ints_length, strs_length, injCs_length, List.length_map] at hl1
  first | refine AL_ev (Ev_len_injCs te30 rfl) rfl ?_ | refine AL_ev (Ev_len_sl te30 rfl) rfl ?_ | refine AL_ev (Ev_len_ref te30 rfl) rfl ?_ | refine AL_ev (Ev_len_nil te30 rfl) rfl ?_ | refine AL_ev (Ev_len_c te30 rfl) rfl ?_
  refine AL_ev (Ev_lss rfl rfl) rfl ?_
  refine AL_nil ?_
  refine hK6 _ _ _ ?_
  refine AC_cond rfl (fun hc1 => ?_) (fun hc1 => ?_)
  · skip
    have hlt : j < cs.length := by simpa using hc1
    obtain ⟨u, hu⟩ : ∃ x, cs[j]? = some x := ⟨_, List.getElem?_eq_getElem hlt⟩
    have hu2 := injCs_get hu
    have hdr := drop_get hu
    refine AC_skip ?_
    refine hK5 _ _ _ ?_
    refine AC_seq fun K7 hK7 => ?_
    refine AC_block ?_
    refine AC_region ?_
    refine AL_ev (Ev_move) rfl ?_
    refine AL_ev (Ev_move) rfl ?_
    refine AL_ev (Ev_move) rfl ?_
    first | refine AL_ev (Ev_ix_sl rfl rfl te30 ts50 (by omega) (by assumption)) rfl ?_ | refine AL_ev (Ev_ix_ref rfl rfl te30 ts50 (by omega) (by first | omega | (simp; omega))) rfl ?_
    first | refine AL_ev (Ev_load_ptr rfl rfl rfl rfl rfl rfl ts50 ta50 (by first | rfl | simp) (by intro h; cases h)) rfl ?_ | refine AL_ev (Ev_load_rp rfl rfl rfl ts50 ta50 (by first | rfl | simp) (by intro h; cases h)) rfl ?_
    refine AL_fcall0 hT rfl cl61 (c_l34Clause u) rfl rfl ?_
    first | refine AL_bD (Lay.st [(Lay.st [.one, .one, .one, .one]), (Lay.st [.one, .one, .one, .one]), .one]) rfl te30 ts50 tz50 rfl rfl (by decide) (by decide) (by first | rfl | simp [lenDs, goodVs, goodV, V.known, Lay.len, Lay.lens]) rfl ?_ | refine AL_bV (Lay.st [(Lay.st [.one, .one, .one, .one]), (Lay.st [.one, .one, .one, .one]), .one]) rfl te30 ts50 tz50 rfl rfl (by decide) (by decide) (by first | rfl | simp [lenDs, goodVs, goodV, V.known, Lay.len, Lay.lens]) _ rfl rfl ?_
    first | refine AL_append rfl rfl rfl te30 ts50 tz50 rfl tb50 (by decide) (by decide) rfl (by first | rfl | (simp; done) | (simp; omega)) (Src_sl rfl) (by simp only [lim]; first | omega | (simp; done) | (simp; omega)) _ rfl rfl ?_ | refine AL_append rfl rfl rfl te30 ts50 tz50 rfl tb50 (by decide) (by decide) rfl (by first | rfl | (simp; done) | (simp; omega)) (Src_ref rfl rfl rfl (by first | rfl | (simp; done) | (simp; omega))) (by simp only [lim]; first | omega | (simp; done) | (simp; omega)) _ rfl rfl ?_ | refine AL_append rfl rfl rfl te30 ts50 tz50 rfl tb50 (by decide) (by decide) rfl (by first | rfl | (simp; done) | (simp; omega)) (Src_nil rfl) (by simp only [lim]; first | omega | (simp; done) | (simp; omega)) _ rfl rfl ?_
    refine AL_ev (Ev_assign) rfl ?_
    refine AL_nil ?_
    refine hK7 _ _ _ ?_
    refine AC_region ?_
    refine AL_ev (Ev_move) rfl ?_
    first | refine AL_ev (Ev_add rfl rfl _ (wrap_id (by first | omega | (simp; omega)) (by first | omega | (simp; omega)))) rfl ?_ | refine AL_ev (Ev_add rfl rfl _ rfl) rfl ?_
    refine AL_ev (Ev_assign) rfl ?_
    refine AL_nil ?_
    refine closeS (j + 1, out ++ [u]) [some 1] rfl rfl (by show cs.length - (j + 1) < cs.length - j; omega) ⟨hlt, ?_⟩ (BxTo_some rfl rfl rfl rfl (by first | exact VwL_app (by first | rfl | (simp [injCs]; done)) | exact VwL_dd (by first | rfl | (simp [injCs]; done)) | exact VwL_of (by first | rfl | (simp [injCs]; done))) BxTo_nil) (SlTo_cons (by first | exact .rd .d | exact Vw_int (by first | rfl | assumption | omega | (simp; done) | (simp; omega)) | exact Vw_c (by first | rfl | (simp; done) | simp_all) | exact .any) (SlTo_cons (Vw_refe rfl (by first | rfl | simp | (simp; omega))) (SlTo_cons (by first | exact .rd .d | exact .any) SlTo_nil)))
    exact ⟨by rw [List.append_assoc, List.singleton_append, ← hdr]; exact hI, by simp; omega⟩
  · skip
    have hj2 : j = cs.length := by
      have : ¬ j < cs.length := by simpa using hc1
      omega
    subst hj2
    rw [List.drop_length] at hI
    refine AC_exit ?_
    refine hK3 _ _ _ ?_
    refine AC_seq fun K8 hK8 => ?_
    refine AC_region ?_
    refine AL_ev (Ev_move) rfl ?_
    refine AL_ev (Ev_assign) rfl ?_
    refine AL_nil ?_
    refine hK8 _ _ _ ?_
    refine AC_ret ?_
    refine ret_ok hdm (.tmp rfl rfl .nil) (.cons (.ref trivial rfl rfl (by simp) (ReadsL_d _)) .nil) ?_
    rw [List.append_nil] at hI
    rw [← hI]

set_option maxHeartbeats 1000000 in
set_option maxRecDepth 4000 in
theorem c_clausesRaw (d : Dbt) (p : ByteArray) (hb : bulkD d ≤ 1099511627776) : PCall Tryd.prog 48 [injD d, .c (.string p)] (· = [.sl LC (injCs (clsOf d.cs p))]) := by
  obtain ⟨cs, op⟩ := d
  obtain ⟨hnc, hbc, hno, hbo⟩ := bulkD_bd hb
  refine PCall_of (n := 33) Tryd.func48 rfl rfl (Nat.le_of_ble_eq_true rfl) fun C hdm hT0 => ?_
  have hT := hT0
  refine AC_seq fun K1 hK1 => ?_
  refine AC_region ?_
  refine AL_box (Lay.st [.one, .one]) (nf rfl) rfl (by first | rfl | simp [Lay.len, Lay.lens]) _ rfl rfl ?_
  refine AL_ev (Ev_assign) rfl ?_
  refine AL_nil ?_
  refine hK1 _ _ _ ?_
  refine AC_seq fun K2 hK2 => ?_
  refine AC_region ?_
  refine AL_bV (Lay.st [(Lay.st [.one, .one, .one, .one]), (Lay.st [.one, .one, .one, .one]), .one]) rfl te30 ts50 tz50 rfl rfl (by decide) (by decide) (by first | rfl | simp [lenDs, goodVs, goodV, V.known, Lay.len, Lay.lens]) _ rfl rfl ?_
  refine AL_ev (Ev_assign) rfl ?_
  refine AL_nil ?_
  refine hK2 _ _ _ ?_
  refine AC_seq fun K3 hK3 => ?_
  refine AC_seq fun K4 hK4 => ?_
  refine AC_region ?_
  refine AL_ev (Ev_assign) rfl ?_
  refine AL_nil ?_
  refine hK4 _ _ _ ?_
  refine AC_block ?_
  refine AC_loopS [1] (Nat × List Cl) (fun ⟨j, out⟩ => [(6, i64 j), (5, .ref LC 0 0 (injCs out).length), (2, .d (.rp (Lay.st [.one, .one]) (injD ⟨cs, op⟩) []))]) (fun ⟨j, out⟩ => [some ⟨50, LC, (injCs out).map V.d⟩]) (fun st => cs.length - st.1) (fun ⟨j, out⟩ => j ≤ cs.length ∧ (clsOf cs p = out ++ clsOf (cs.drop j) p ∧ out.length ≤ j)) ((0, [])) ?_ ?_ ?_
  · skip
    exact enterS [some 1] rfl rfl (BxTo_some rfl rfl rfl rfl (by first | exact .nil | exact VwL_dd (by first | rfl | simp) | exact VwL_app (by first | rfl | simp) | exact VwL_of (by first | rfl | simp)) BxTo_nil) (SlTo_cons (by first | exact .rd .d | exact Vw_int (by first | rfl | assumption | omega | (simp; done) | (simp; omega)) | exact Vw_c (by first | rfl | (simp; done) | simp_all) | exact .any) (SlTo_cons (Vw_refe rfl (by first | rfl | simp)) (SlTo_cons (by first | exact .rd (.ptr (srcFree rfl) rfl rfl rfl .d) | exact .rd .d) (SlTo_cons (by first | exact .rd .d | exact .any) SlTo_nil))))
  · skip
    exact ⟨Nat.zero_le _, by simp, by simp⟩
  rintro ⟨j, out⟩ ⟨hj, ⟨hI, ho⟩⟩
  show AC _ _ _ _ _ (FS [1] _ [(6, i64 j), (5, .ref LC 0 0 (injCs out).length), (2, .d (.rp (Lay.st [.one, .one]) (injD ⟨cs, op⟩) []))]) [some ⟨50, LC, (injCs out).map V.d⟩]
  refine AC_seq fun K5 hK5 => ?_
  refine AC_seq fun K6 hK6 => ?_
  refine AC_region ?_
  refine AL_ev (Ev_move) rfl ?_
  first | refine AL_ev (Ev_fa_ptr rfl fa32_0 rfl rfl) rfl ?_ | refine AL_ev (Ev_fa_rp rfl fa32_0 rfl rfl) rfl ?_
  first | refine AL_ev (Ev_load_ptr rfl rfl rfl rfl rfl rfl ts30 ta30 rfl (fun _ => rfl)) rfl ?_ | refine AL_ev (Ev_load_rp rfl rfl rfl ts30 ta30 rfl (fun _ => rfl)) rfl ?_
  first | refine AL_lim (x := (Operand.tmp 10)) rfl fun hl1 => ?_ | refine AL_limB (x := (Operand.tmp 10)) rfl rfl (by first | rfl | (simp; done) | (simp; omega)) fun hl1 => ?_ | have hl1 := True.intro
  try simp only [injs_length, ints_length, strs_length, injCs_length, List.length_map] at hl1
  first | refine AL_ev (Ev_len_injCs te30 rfl) rfl ?_ | refine AL_ev (Ev_len_sl te30 rfl) rfl ?_ | refine AL_ev (Ev_len_ref te30 rfl) rfl ?_ | refine AL_ev (Ev_len_nil te30 rfl) rfl ?_ | refine AL_ev (Ev_len_c te30 rfl) rfl ?_
  refine AL_ev (Ev_lss rfl rfl) rfl ?_
  refine AL_nil ?_
  refine hK6 _ _ _ ?_
  refine AC_cond rfl (fun hc1 => ?_) (fun hc1 => ?_)
  · skip
    have hlt : j < cs.length := by simpa using hc1
    obtain ⟨u, hu⟩ : ∃ x, cs[j]? = some x := ⟨_, List.getElem?_eq_getElem hlt⟩
    have hu2 := injCs_get hu
    have hdr := drop_get hu
    obtain ⟨hbu, _, _⟩ := bulkCs_bd (List.mem_of_getElem? hu) hbc
    rw [hdr, clsOf] at hI
    refine AC_skip ?_
    refine hK5 _ _ _ ?_
    refine AC_seq fun K7 hK7 => ?_
    refine AC_block ?_
    refine AC_seq fun K8 hK8 => ?_
    refine AC_region ?_
    first | refine AL_ev (Ev_fa_ptr rfl fa32_0 rfl rfl) rfl ?_ | refine AL_ev (Ev_fa_rp rfl fa32_0 rfl rfl) rfl ?_
    first | refine AL_ev (Ev_load_ptr rfl rfl rfl rfl rfl rfl ts30 ta30 rfl (fun _ => rfl)) rfl ?_ | refine AL_ev (Ev_load_rp rfl rfl rfl ts30 ta30 rfl (fun _ => rfl)) rfl ?_
    refine AL_ev (Ev_move) rfl ?_
    first | refine AL_ev (Ev_ix_sl rfl rfl te30 ts50 (by omega) (by assumption)) rfl ?_ | refine AL_ev (Ev_ix_ref rfl rfl te30 ts50 (by omega) (by first | omega | (simp; omega))) rfl ?_
    first | refine AL_ev (Ev_fa_ptr rfl fa50_0 rfl rfl) rfl ?_ | refine AL_ev (Ev_fa_rp rfl fa50_0 rfl rfl) rfl ?_
    first | refine AL_ev (Ev_load_ptr rfl rfl rfl rfl rfl rfl ts48 ta48 (by first | rfl | simp) (by intro h; cases h)) rfl ?_ | refine AL_ev (Ev_load_rp rfl rfl rfl ts48 ta48 (by first | rfl | simp) (by intro h; cases h)) rfl ?_
    refine AL_fcall0 hT rfl cl33 (c_specPredOf u.h (by omega)) rfl rfl ?_
    refine AL_ev (Ev_move) rfl ?_
    refine AL_ev (Ev_seql rfl rfl) rfl ?_
    refine AL_nil ?_
    refine hK8 _ _ _ ?_
    refine AC_cond rfl (fun hc2 => ?_) (fun hc2 => ?_)
    · skip
      refine AC_region ?_
      refine AL_ev (Ev_move) rfl ?_
      first | refine AL_ev (Ev_fa_ptr rfl fa32_0 rfl rfl) rfl ?_ | refine AL_ev (Ev_fa_rp rfl fa32_0 rfl rfl) rfl ?_
      first | refine AL_ev (Ev_load_ptr rfl rfl rfl rfl rfl rfl ts30 ta30 rfl (fun _ => rfl)) rfl ?_ | refine AL_ev (Ev_load_rp rfl rfl rfl ts30 ta30 rfl (fun _ => rfl)) rfl ?_
      refine AL_ev (Ev_move) rfl ?_
      first | refine AL_ev (Ev_ix_sl rfl rfl te30 ts50 (by omega) (by assumption)) rfl ?_ | refine AL_ev (Ev_ix_ref rfl rfl te30 ts50 (by omega) (by first | omega | (simp; omega))) rfl ?_
      first | refine AL_ev (Ev_load_ptr rfl rfl rfl rfl rfl rfl ts50 ta50 (by first | rfl | simp) (by intro h; cases h)) rfl ?_ | refine AL_ev (Ev_load_rp rfl rfl rfl ts50 ta50 (by first | rfl | simp) (by intro h; cases h)) rfl ?_
      first | refine AL_bD (Lay.st [(Lay.st [.one, .one, .one, .one]), (Lay.st [.one, .one, .one, .one]), .one]) rfl te30 ts50 tz50 rfl rfl (by decide) (by decide) (by first | rfl | simp [lenDs, goodVs, goodV, V.known, Lay.len, Lay.lens]) rfl ?_ | refine AL_bV (Lay.st [(Lay.st [.one, .one, .one, .one]), (Lay.st [.one, .one, .one, .one]), .one]) rfl te30 ts50 tz50 rfl rfl (by decide) (by decide) (by first | rfl | simp [lenDs, goodVs, goodV, V.known, Lay.len, Lay.lens]) _ rfl rfl ?_
      first | refine AL_append rfl rfl rfl te30 ts50 tz50 rfl tb50 (by decide) (by decide) rfl (by first | rfl | (simp; done) | (simp; omega)) (Src_sl rfl) (by simp only [lim]; first | omega | (simp; done) | (simp; omega)) _ rfl rfl ?_ | refine AL_append rfl rfl rfl te30 ts50 tz50 rfl tb50 (by decide) (by decide) rfl (by first | rfl | (simp; done) | (simp; omega)) (Src_ref rfl rfl rfl (by first | rfl | (simp; done) | (simp; omega))) (by simp only [lim]; first | omega | (simp; done) | (simp; omega)) _ rfl rfl ?_ | refine AL_append rfl rfl rfl te30 ts50 tz50 rfl tb50 (by decide) (by decide) rfl (by first | rfl | (simp; done) | (simp; omega)) (Src_nil rfl) (by simp only [lim]; first | omega | (simp; done) | (simp; omega)) _ rfl rfl ?_
      refine AL_ev (Ev_assign) rfl ?_
      refine AL_nil ?_
      refine hK7 _ _ _ ?_
      refine AC_region ?_
      refine AL_ev (Ev_move) rfl ?_
      first | refine AL_ev (Ev_add rfl rfl _ (wrap_id (by first | omega | (simp; omega)) (by first | omega | (simp; omega)))) rfl ?_ | refine AL_ev (Ev_add rfl rfl _ rfl) rfl ?_
      refine AL_ev (Ev_assign) rfl ?_
      refine AL_nil ?_
      refine closeS (j + 1, out ++ [u]) [some 1] rfl rfl (by show cs.length - (j + 1) < cs.length - j; omega) ⟨hlt, ?_⟩ (BxTo_some rfl rfl rfl rfl (by first | exact VwL_app (by first | rfl | (simp [injCs]; done)) | exact VwL_dd (by first | rfl | (simp [injCs]; done)) | exact VwL_of (by first | rfl | (simp [injCs]; done))) BxTo_nil) (SlTo_cons (by first | exact .rd .d | exact Vw_int (by first | rfl | assumption | omega | (simp; done) | (simp; omega)) | exact Vw_c (by first | rfl | (simp; done) | simp_all) | exact .any) (SlTo_cons (Vw_refe rfl (by first | rfl | simp | (simp; omega))) (SlTo_cons (by first | exact .rd (.ptr (srcFree rfl) rfl rfl rfl .d) | exact .rd .d) (SlTo_cons (by first | exact .rd .d | exact .any) SlTo_nil))))
      exact ⟨by rw [hI, ite_dec hc2]; simp, by simp; omega⟩
    · skip
      refine AC_skip ?_
      refine hK7 _ _ _ ?_
      refine AC_region ?_
      refine AL_ev (Ev_move) rfl ?_
      first | refine AL_ev (Ev_add rfl rfl _ (wrap_id (by first | omega | (simp; omega)) (by first | omega | (simp; omega)))) rfl ?_ | refine AL_ev (Ev_add rfl rfl _ rfl) rfl ?_
      refine AL_ev (Ev_assign) rfl ?_
      refine AL_nil ?_
      refine closeS (j + 1, out) [some 0] rfl rfl (by show cs.length - (j + 1) < cs.length - j; omega) ⟨hlt, ?_⟩ (BxTo_some rfl rfl rfl rfl (by first | exact VwL_app (by first | rfl | (simp [injCs]; done)) | exact VwL_dd (by first | rfl | (simp [injCs]; done)) | exact VwL_of (by first | rfl | (simp [injCs]; done))) BxTo_nil) (SlTo_cons (by first | exact .rd .d | exact Vw_int (by first | rfl | assumption | omega | (simp; done) | (simp; omega)) | exact Vw_c (by first | rfl | (simp; done) | simp_all) | exact .any) (SlTo_cons (Vw_refe rfl (by first | rfl | simp | (simp; omega))) (SlTo_cons (by first | exact .rd (.ptr (srcFree rfl) rfl rfl rfl .d) | exact .rd .d) (SlTo_cons (by first | exact .rd .d | exact .any) SlTo_nil))))
      exact ⟨by rw [hI, ite_decn hc2], by omega⟩
  · skip
    have hj2 : j = cs.length := by
      have : ¬ j < cs.length := by simpa using hc1
      omega
    subst hj2
    rw [List.drop_length] at hI
    refine AC_exit ?_
    refine hK3 _ _ _ ?_
    refine AC_seq fun K9 hK9 => ?_
    refine AC_region ?_
    refine AL_ev (Ev_move) rfl ?_
    refine AL_ev (Ev_assign) rfl ?_
    refine AL_nil ?_
    refine hK9 _ _ _ ?_
    refine AC_ret ?_
    refine ret_ok hdm (.tmp rfl rfl .nil) (.cons (.ref trivial rfl rfl (by simp) (ReadsL_d _)) .nil) ?_
    rw [clsOf, List.append_nil] at hI
    rw [hI]

set_option maxHeartbeats 1000000 in
set_option maxRecDepth 4000 in
theorem c_specClausesOf (d : Dbt) (p : ByteArray) (hb : bulkD d ≤ 1099511627776) : PCall Tryd.prog 34 [injD d, .c (.string p)] (· = [.sl LC (injCs (clsOf d.cs p))]) := by
  refine PCall_of (n := 11) Tryd.func34 rfl rfl (Nat.le_of_ble_eq_true rfl) fun C hdm hT0 => ?_
  have hT := hT0
  refine AC_seq fun K1 hK1 => ?_
  refine AC_region ?_
  refine AL_box (Lay.st [.one, .one]) (nf rfl) rfl (by first | rfl | simp [Lay.len, Lay.lens]) _ rfl rfl ?_
  refine AL_ev (Ev_assign) rfl ?_
  refine AL_nil ?_
  refine hK1 _ _ _ ?_
  refine AC_seq fun K2 hK2 => ?_
  refine AC_region ?_
  first | refine AL_ev (Ev_load_ptr rfl rfl rfl rfl rfl rfl ts32 ta32 (by first | rfl | simp) (by intro h; cases h)) rfl ?_ | refine AL_ev (Ev_load_rp rfl rfl rfl ts32 ta32 (by first | rfl | simp) (by intro h; cases h)) rfl ?_
  refine AL_ev (Ev_move) rfl ?_
  refine AL_fcall0 hT rfl cl48 (c_clausesRaw d p hb) rfl rfl ?_
  refine AL_ev (Ev_assign) rfl ?_
  refine AL_nil ?_
  refine hK2 _ _ _ ?_
  refine AC_seq fun K3 hK3 => ?_
  refine AC_region ?_
  refine AL_ev (Ev_move) rfl ?_
  refine AL_fcall0 hT rfl cl49 (c_l34Clauses (clsOf d.cs p)) rfl rfl ?_
  refine AL_ev (Ev_assign) rfl ?_
  refine AL_nil ?_
  refine hK3 _ _ _ ?_
  refine AC_ret ?_
  exact ret_ok hdm (.tmp rfl rfl .nil) (.cons .d .nil) rfl

end Go.Proofs.YtjhdkjacfclipaaDoor
