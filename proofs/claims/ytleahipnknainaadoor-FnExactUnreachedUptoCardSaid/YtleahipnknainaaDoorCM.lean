/- Contracts of functions. -/
import Derived.Test.YtleahipnknainaaDoorMt
import Derived.Test.YtleahipnknainaaDoorOk
import Derived.Test.YtleahipnknainaaDoorWn
import Derived.Test.YtleahipnknainaaDoorEng27
import Derived.Test.YtleahipnknainaaDoorUs
import Derived.Test.YtleahipnknainaaDoorTy
import Derived.Test.YtleahipnknainaaDoorCJ
set_option linter.unusedVariables false
set_option linter.unusedSimpArgs false
namespace Go.Proofs.YtleahipnknainaaDoor
open Go.Eng

set_option maxHeartbeats 1000000 in
set_option maxRecDepth 4000 in
theorem c_unreached (d : Dbt) (es : List ByteArray) (hb : bulkD d + (es.length + bulkSs es) ≤ 1048576) : NCall Tryd.prog 57 [injD d, .sl .one (strs es)] 9 (unreached d es) := by
  have hsn := bulkSs_nn es
  obtain ⟨hnc, hbc, hno, hbo⟩ := bulkD_bd (cs := d.cs) (op := d.op) (B := 1048576) (by show bulkD d ≤ _; omega)
  have hwr := wR_bd hb
  have hpl := predsF_len d.cs []
  simp only [List.length_nil] at hpl
  have hcu := fun u => reachedFrom_len d u
  obtain ⟨ps, hps⟩ : ∃ ps, ps = predsF d.cs [] := ⟨_, rfl⟩
  have hmd : unreached d es = ps.filter fun x => !hasS (appR d es es) x := by rw [hps]; exact unreached_app d es
  rw [← hps] at hpl
  refine NCall_of (n := 42) Tryd.func57 rfl rfl (Nat.le_of_ble_eq_true rfl) fun C hdm hT => ?_
  refine AC_seq fun K1 hK1 => ?_
  refine AC_region ?_
  refine AL_box (Lay.st [.one, .one]) (nf rfl) rfl (by first | rfl | simp [Lay.len, Lay.lens]) _ rfl rfl ?_
  refine AL_ev (Ev_assign) rfl ?_
  refine AL_nil ?_
  refine hK1 _ _ _ ?_
  refine AC_seq fun K2 hK2 => ?_
  refine AC_region ?_
  refine AL_ev (Ev_move) rfl ?_
  refine AL_appendn (l := .one) rfl te23 ts9 tz9 rfl tb9 (by decide) (by decide) rfl (by simp only [lim]; simp; omega) _ rfl rfl ?_
  refine AL_ev (Ev_assign) rfl ?_
  refine AL_nil ?_
  refine hK2 _ _ _ ?_
  refine AC_seq fun K3 hK3 => ?_
  refine AC_seq fun K4 hK4 => ?_
  refine AC_region ?_
  refine AL_ev (Ev_move) rfl ?_
  first | refine AL_lim (x := (Operand.tmp 13)) rfl fun hl1 => ?_ | refine AL_limB (x := (Operand.tmp 13)) rfl rfl (by first | rfl | (simp; done) | (simp; omega)) fun hl1 => ?_ | have hl1 := True.intro
  try simp only [injs_length, ints_length, strs_length, injCs_length, List.length_map] at hl1
  first | refine AL_ev (Ev_len_strs te23 rfl) rfl ?_ | refine AL_ev (Ev_len_sl te23 rfl) rfl ?_ | refine AL_ev (Ev_len_ref te23 rfl) rfl ?_ | refine AL_ev (Ev_len_nil te23 rfl) rfl ?_ | refine AL_ev (Ev_len_c te23 rfl) rfl ?_
  refine AL_ev (Ev_move) rfl ?_
  refine AL_nil ?_
  refine hK4 _ _ _ ?_
  refine AC_block ?_
  refine AC_loopS [13, 14] (Nat × List ByteArray) (fun ⟨j, out⟩ => [(15, i64 j), (5, .ref .one 0 0 (strs out).length), (2, .d (.rp (Lay.st [.one, .one]) (injD d) []))]) (fun ⟨j, out⟩ => [some ⟨9, .one, (strs out).map V.d⟩]) (fun st => es.length - st.1) (fun ⟨j, out⟩ => j ≤ es.length ∧ (appR d es es = appR d (es.drop j) out ∧ out.length + wR d (es.drop j) ≤ 1099511627776)) ((0, es)) ?_ ?_ ?_
  · skip
    exact enterS [some 2] rfl rfl (BxTo_some rfl rfl rfl rfl (by first | exact .nil | exact VwL_dd (by first | rfl | simp) | exact VwL_app (by first | rfl | simp) | exact VwL_of (by first | rfl | simp)) BxTo_nil) (SlTo_cons (by first | exact .rd .d | exact Vw_int (by first | rfl | assumption | omega | (simp; done) | (simp; omega)) | exact Vw_c (by first | rfl | (simp; done) | simp_all) | exact .any) (SlTo_cons (Vw_refe rfl (by first | rfl | simp)) (SlTo_cons (by first | exact .rd (.ptr (srcFree rfl) rfl rfl rfl .d) | exact .rd .d) (SlTo_cons (by first | exact .rd .d | exact .any) (SlTo_cons (by first | exact .rd .d | exact .any) SlTo_nil)))))
  · skip
    exact ⟨Nat.zero_le _, by simp, by simpa using hwr⟩
  rintro ⟨j, out⟩ ⟨hj, ⟨hI, ho⟩⟩
  show AC _ _ _ _ _ (FS [13, 14] _ [(15, i64 j), (5, .ref .one 0 0 (strs out).length), (2, .d (.rp (Lay.st [.one, .one]) (injD d) []))]) [some ⟨9, .one, (strs out).map V.d⟩]
  refine AC_seq fun K5 hK5 => ?_
  refine AC_region ?_
  refine AL_ev (Ev_lss rfl rfl) rfl ?_
  refine AL_nil ?_
  refine hK5 _ _ _ ?_
  refine AC_seq fun K6 hK6 => ?_
  refine AC_cond rfl (fun hc1 => ?_) (fun hc1 => ?_)
  · skip
    have hlt : j < es.length := by simpa using hc1
    obtain ⟨u, hu⟩ : ∃ x, es[j]? = some x := ⟨_, List.getElem?_eq_getElem hlt⟩
    have hu2 := strs_get hu
    have hdr := drop_get hu
    rw [hdr, appR] at hI
    rw [hdr, wR] at ho
    refine AC_skip ?_
    refine hK6 _ _ _ ?_
    refine AC_seq fun K7 hK7 => ?_
    refine AC_block ?_
    refine AC_seq fun K8 hK8 => ?_
    refine AC_region ?_
    first | refine AL_ev (Ev_ix_sl rfl rfl te23 ts9 (by omega) (by assumption)) rfl ?_ | refine AL_ev (Ev_ix_ref rfl rfl te23 ts9 (by omega) (by first | omega | (simp; omega))) rfl ?_
    first | refine AL_ev (Ev_load_ptr rfl rfl rfl rfl rfl rfl ts9 ta9 rfl (fun _ => rfl)) rfl ?_ | refine AL_ev (Ev_load_rp rfl rfl rfl ts9 ta9 rfl (fun _ => rfl)) rfl ?_
    refine AL_ev (Ev_assign) rfl ?_
    refine AL_nil ?_
    refine hK8 _ _ _ ?_
    refine AC_region ?_
    refine AL_ev (Ev_move) rfl ?_
    first | refine AL_ev (Ev_load_ptr rfl rfl rfl rfl rfl rfl ts30 ta30 (by first | rfl | simp) (by intro h; cases h)) rfl ?_ | refine AL_ev (Ev_load_rp rfl rfl rfl ts30 ta30 (by first | rfl | simp) (by intro h; cases h)) rfl ?_
    refine AL_ev (Ev_move) rfl ?_
    refine AL_fcall0 hT rfl cl49 ((c_reachedFromN d u (by omega)).ocall.pcall) rfl rfl ?_
    first | refine AL_append rfl rfl rfl te23 ts9 tz9 rfl tb9 (by decide) (by decide) rfl (by first | rfl | (simp; done) | (simp; omega)) (Src_sl rfl) (by simp only [lim]; first | omega | (simp; done) | (simp; omega)) _ rfl rfl ?_ | refine AL_append rfl rfl rfl te23 ts9 tz9 rfl tb9 (by decide) (by decide) rfl (by first | rfl | (simp; done) | (simp; omega)) (Src_ref rfl rfl rfl rfl) (by simp only [lim]; first | omega | (simp; done) | (simp; omega)) _ rfl rfl ?_ | refine AL_append rfl rfl rfl te23 ts9 tz9 rfl tb9 (by decide) (by decide) rfl (by first | rfl | (simp; done) | (simp; omega)) (Src_nil rfl) (by simp only [lim]; first | omega | (simp; done) | (simp; omega)) _ rfl rfl ?_
    refine AL_ev (Ev_assign) rfl ?_
    refine AL_nil ?_
    refine hK7 _ _ _ ?_
    refine AC_region ?_
    first | refine AL_ev (Ev_add rfl rfl _ (wrap_id (by first | omega | (simp; omega)) (by first | omega | (simp; omega)))) rfl ?_ | refine AL_ev (Ev_add rfl rfl _ rfl) rfl ?_
    refine AL_ev (Ev_move) rfl ?_
    refine AL_nil ?_
    refine closeS (j + 1, out ++ reachedFrom d u) [some 1] rfl rfl (by show es.length - (j + 1) < es.length - j; omega) ⟨hlt, ?_⟩ (BxTo_some rfl rfl rfl rfl (by first | exact VwL_app (by simp [strs]) | exact VwL_dd (by simp [strs]) | exact VwL_of (by simp [strs])) BxTo_nil) (SlTo_cons (by first | exact .rd .d | exact Vw_int (by first | rfl | assumption | omega | (simp; done) | (simp; omega)) | exact Vw_c (by first | rfl | (simp; done) | simp_all) | exact .any) (SlTo_cons (Vw_refe rfl (by first | rfl | simp | (simp; omega))) (SlTo_cons (by first | exact .rd (.ptr (srcFree rfl) rfl rfl rfl .d) | exact .rd .d) (SlTo_cons (by first | exact .rd .d | exact .any) (SlTo_cons (by first | exact .rd .d | exact .any) SlTo_nil)))))
    exact ⟨hI, by simp only [List.length_append]; omega⟩
  · skip
    have hj2 : j = es.length := by
      have : ¬ j < es.length := by simpa using hc1
      omega
    subst hj2
    rw [List.drop_length] at hI
    refine AC_exit ?_
    refine hK3 _ _ _ ?_
    refine AC_seq fun K9 hK9 => ?_
    refine AC_region ?_
    refine AL_ev (Ev_assign) rfl ?_
    refine AL_nil ?_
    refine hK9 _ _ _ ?_
    refine AC_seq fun K10 hK10 => ?_
    refine AC_seq fun K11 hK11 => ?_
    refine AC_region ?_
    first | refine AL_ev (Ev_load_ptr rfl rfl rfl rfl rfl rfl ts30 ta30 (by first | rfl | simp) (by intro h; cases h)) rfl ?_ | refine AL_ev (Ev_load_rp rfl rfl rfl ts30 ta30 (by first | rfl | simp) (by intro h; cases h)) rfl ?_
    refine AL_fcall0 hT rfl cl18 (hps ▸ (c_predsOf d (by omega)).pcall) rfl rfl ?_
    first | refine AL_lim (x := (Operand.tmp 26)) rfl fun hl2 => ?_ | refine AL_limB (x := (Operand.tmp 26)) rfl rfl (by first | rfl | (simp; done) | (simp; omega)) fun hl2 => ?_ | have hl2 := True.intro
    try simp only [injs_length, ints_length, strs_length, injCs_length, List.length_map] at hl2
    first | refine AL_ev (Ev_len_strs te23 rfl) rfl ?_ | refine AL_ev (Ev_len_sl te23 rfl) rfl ?_ | refine AL_ev (Ev_len_ref te23 rfl) rfl ?_ | refine AL_ev (Ev_len_nil te23 rfl) rfl ?_ | refine AL_ev (Ev_len_c te23 rfl) rfl ?_
    refine AL_ev (Ev_move) rfl ?_
    refine AL_nil ?_
    refine hK11 _ _ _ ?_
    refine AC_block ?_
    refine AC_loopS [26, 27] (Nat × List ByteArray) (fun ⟨j2, fo⟩ => [(28, i64 j2), (8, .ref .one 0 0 (strs fo).length), (5, .d (.sl .one (strs out)))]) (fun ⟨j2, fo⟩ => [some ⟨9, .one, (strs fo).map V.d⟩]) (fun st => ps.length - st.1) (fun ⟨j2, fo⟩ => j2 ≤ ps.length ∧ (ps.filter (fun x => !hasS out x) = fo ++ (ps.drop j2).filter (fun x => !hasS out x) ∧ fo.length ≤ j2)) ((0, [])) ?_ ?_ ?_
    · skip
      refine Wk.then (Wk_nil_slot 8 9 .one rfl 1 rfl ?_)
      exact enterS [some 1] rfl rfl (BxTo_some rfl rfl rfl rfl (by first | exact .nil | exact VwL_dd (by first | rfl | simp) | exact VwL_app (by first | rfl | simp) | exact VwL_of (by first | rfl | simp)) BxTo_nil) (SlTo_cons (by first | exact .rd .d | exact Vw_int (by first | rfl | assumption | omega | (simp; done) | (simp; omega)) | exact Vw_c (by first | rfl | (simp; done) | simp_all) | exact .any) (SlTo_cons (Vw_refe rfl (by first | rfl | simp)) (SlTo_cons (by first | exact .rd .d | exact .rd (.ref (srcFree rfl) rfl rfl (by simp) (ReadsL_d _))) (SlTo_cons (by first | exact .rd .d | exact .any) (SlTo_cons (by first | exact .rd .d | exact .any) SlTo_nil)))))
    · skip
      exact ⟨Nat.zero_le _, by simp, by simp⟩
    rintro ⟨j2, fo⟩ ⟨hj, ⟨hI3, ho3⟩⟩
    show AC _ _ _ _ _ (FS [26, 27] _ [(28, i64 j2), (8, .ref .one 0 0 (strs fo).length), (5, .d (.sl .one (strs out)))]) [some ⟨9, .one, (strs fo).map V.d⟩]
    refine AC_seq fun K12 hK12 => ?_
    refine AC_region ?_
    refine AL_ev (Ev_lss rfl rfl) rfl ?_
    refine AL_nil ?_
    refine hK12 _ _ _ ?_
    refine AC_seq fun K13 hK13 => ?_
    refine AC_cond rfl (fun hc2 => ?_) (fun hc2 => ?_)
    · skip
      have hlt : j2 < ps.length := by simpa using hc2
      obtain ⟨v, hu⟩ : ∃ x, ps[j2]? = some x := ⟨_, List.getElem?_eq_getElem hlt⟩
      have hu2 := strs_get hu
      have hdr := drop_get hu
      rw [hdr, List.filter_cons] at hI3
      refine AC_skip ?_
      refine hK13 _ _ _ ?_
      refine AC_seq fun K14 hK14 => ?_
      refine AC_block ?_
      refine AC_seq fun K15 hK15 => ?_
      refine AC_region ?_
      first | refine AL_ev (Ev_ix_sl rfl rfl te23 ts9 (by omega) (by assumption)) rfl ?_ | refine AL_ev (Ev_ix_ref rfl rfl te23 ts9 (by omega) (by first | omega | (simp; omega))) rfl ?_
      first | refine AL_ev (Ev_load_ptr rfl rfl rfl rfl rfl rfl ts9 ta9 rfl (fun _ => rfl)) rfl ?_ | refine AL_ev (Ev_load_rp rfl rfl rfl ts9 ta9 rfl (fun _ => rfl)) rfl ?_
      refine AL_ev (Ev_assign) rfl ?_
      refine AL_nil ?_
      refine hK15 _ _ _ ?_
      refine AC_seq fun K16 hK16 => ?_
      refine AC_region ?_
      refine AL_ev (Ev_move) rfl ?_
      refine AL_ev (Ev_move) rfl ?_
      refine AL_fcall0 hT rfl cl85 (c_containsS out v) rfl rfl ?_
      refine AL_ev (Ev_not rfl) rfl ?_
      refine AL_nil ?_
      refine hK16 _ _ _ ?_
      refine AC_cond rfl (fun hc3 => ?_) (fun hc3 => ?_)
      · skip
        refine AC_region ?_
        refine AL_ev (Ev_move) rfl ?_
        refine AL_ev (Ev_move) rfl ?_
        first | refine AL_bD .one rfl te23 ts9 tz9 rfl rfl (by decide) (by decide) (by first | rfl | simp [lenDs, goodVs, goodV, V.known, Lay.len, Lay.lens]) rfl ?_ | refine AL_bV .one rfl te23 ts9 tz9 rfl rfl (by decide) (by decide) (by first | rfl | simp [lenDs, goodVs, goodV, V.known, Lay.len, Lay.lens]) _ rfl rfl ?_
        first | refine AL_append rfl rfl rfl te23 ts9 tz9 rfl tb9 (by decide) (by decide) rfl (by first | rfl | (simp; done) | (simp; omega)) (Src_sl rfl) (by simp only [lim]; first | omega | (simp; done) | (simp; omega)) _ rfl rfl ?_ | refine AL_append rfl rfl rfl te23 ts9 tz9 rfl tb9 (by decide) (by decide) rfl (by first | rfl | (simp; done) | (simp; omega)) (Src_ref rfl rfl rfl rfl) (by simp only [lim]; first | omega | (simp; done) | (simp; omega)) _ rfl rfl ?_ | refine AL_append rfl rfl rfl te23 ts9 tz9 rfl tb9 (by decide) (by decide) rfl (by first | rfl | (simp; done) | (simp; omega)) (Src_nil rfl) (by simp only [lim]; first | omega | (simp; done) | (simp; omega)) _ rfl rfl ?_
        refine AL_ev (Ev_assign) rfl ?_
        refine AL_nil ?_
        refine hK14 _ _ _ ?_
        refine AC_region ?_
        first | refine AL_ev (Ev_add rfl rfl _ (wrap_id (by first | omega | (simp; omega)) (by first | omega | (simp; omega)))) rfl ?_ | refine AL_ev (Ev_add rfl rfl _ rfl) rfl ?_
        refine AL_ev (Ev_move) rfl ?_
        refine AL_nil ?_
        refine closeS (j2 + 1, fo ++ [v]) [some 1] rfl rfl (by show ps.length - (j2 + 1) < ps.length - j2; omega) ⟨hlt, ?_⟩ (BxTo_some rfl rfl rfl rfl (by first | exact VwL_app (by first | rfl | simp [ints, strs] | simp [ints, strs, injs_map]) | exact VwL_dd (by first | rfl | simp [ints, strs] | simp [ints, strs, injs_map]) | exact VwL_of (by first | rfl | simp [ints, strs] | simp [ints, strs, injs_map])) BxTo_nil) (SlTo_cons (by first | exact .rd .d | exact Vw_int (by first | rfl | assumption | omega | (simp; done) | (simp; omega)) | exact Vw_c (by first | rfl | (simp; done) | simp_all) | exact .any) (SlTo_cons (Vw_refe rfl (by first | rfl | simp | (simp; omega))) (SlTo_cons (by first | exact .rd .d | exact .rd (.ref (srcFree rfl) rfl rfl (by simp) (ReadsL_d _))) (SlTo_cons (by first | exact .rd .d | exact .any) (SlTo_cons (by first | exact .rd .d | exact .any) SlTo_nil)))))
        exact ⟨by rw [hI3, if_pos (by simp_all)]; simp, by simp; omega⟩
      · skip
        refine AC_skip ?_
        refine hK14 _ _ _ ?_
        refine AC_region ?_
        first | refine AL_ev (Ev_add rfl rfl _ (wrap_id (by first | omega | (simp; omega)) (by first | omega | (simp; omega)))) rfl ?_ | refine AL_ev (Ev_add rfl rfl _ rfl) rfl ?_
        refine AL_ev (Ev_move) rfl ?_
        refine AL_nil ?_
        refine closeS (j2 + 1, fo) [some 0] rfl rfl (by show ps.length - (j2 + 1) < ps.length - j2; omega) ⟨hlt, ?_⟩ (BxTo_some rfl rfl rfl rfl (by first | exact VwL_app (by first | rfl | simp [ints, strs] | simp [ints, strs, injs_map]) | exact VwL_dd (by first | rfl | simp [ints, strs] | simp [ints, strs, injs_map]) | exact VwL_of (by first | rfl | simp [ints, strs] | simp [ints, strs, injs_map])) BxTo_nil) (SlTo_cons (by first | exact .rd .d | exact Vw_int (by first | rfl | assumption | omega | (simp; done) | (simp; omega)) | exact Vw_c (by first | rfl | (simp; done) | simp_all) | exact .any) (SlTo_cons (Vw_refe rfl (by first | rfl | simp | (simp; omega))) (SlTo_cons (by first | exact .rd .d | exact .rd (.ref (srcFree rfl) rfl rfl (by simp) (ReadsL_d _))) (SlTo_cons (by first | exact .rd .d | exact .any) (SlTo_cons (by first | exact .rd .d | exact .any) SlTo_nil)))))
        exact ⟨by rw [hI3, if_neg (by simp_all)], by omega⟩
    · skip
      have hj2 : j2 = ps.length := by
        have : ¬ j2 < ps.length := by simpa using hc2
        omega
      subst hj2
      refine AC_exit ?_
      refine hK10 _ _ _ ?_
      refine AC_seq fun K17 hK17 => ?_
      refine AC_region ?_
      refine AL_ev (Ev_move) rfl ?_
      refine AL_ev (Ev_assign) rfl ?_
      refine AL_nil ?_
      refine hK17 _ _ _ ?_
      refine AC_ret ?_
      rw [appR] at hI
      rw [List.drop_length] at hI3
      simp only [List.filter_nil, List.append_nil] at hI3
      rw [show unreached d es = fo from by rw [hmd, hI, hI3]]
      exact retn_ok hdm (.tmp rfl rfl .nil) rfl (by rfl) (by simp)

set_option maxHeartbeats 1000000 in
set_option maxRecDepth 4000 in
theorem c_specUnreached (d : Dbt) (es : List ByteArray) (hb : bulkD d + (es.length + bulkSs es) ≤ 1048576) : PCall Tryd.prog 55 [injD d, .sl .one (strs es)] (· = [.sl .one (strs (unreached d es))]) := by
  have hsn := bulkSs_nn es
  obtain ⟨hnc, hbc, hno, hbo⟩ := bulkD_bd (cs := d.cs) (op := d.op) (B := 1048576) (by show bulkD d ≤ _; omega)
  have hwr := wR_bd hb
  have hpl := predsF_len d.cs []
  simp only [List.length_nil] at hpl
  have hcu := fun u => reachedFrom_len d u
  obtain ⟨ps, hps⟩ : ∃ ps, ps = predsF d.cs [] := ⟨_, rfl⟩
  have hmd : unreached d es = ps.filter fun x => !hasS (addR d es es) x := by rw [hps]; exact unreached_add d es
  rw [← hps] at hpl
  refine PCall_of (n := 63) Tryd.func55 rfl rfl (Nat.le_of_ble_eq_true rfl) fun C hdm hT0 => ?_
  have hT := hT0
  refine AC_seq fun K1 hK1 => ?_
  refine AC_region ?_
  refine AL_box (Lay.st [.one, .one]) (nf rfl) rfl (by first | rfl | simp [Lay.len, Lay.lens]) _ rfl rfl ?_
  refine AL_ev (Ev_assign) rfl ?_
  refine AL_nil ?_
  refine hK1 _ _ _ ?_
  refine AC_seq fun K2 hK2 => ?_
  refine AC_region ?_
  refine AL_bV .one rfl te23 ts9 tz9 rfl rfl (by decide) (by decide) (by first | rfl | simp [lenDs, goodVs, goodV, V.known, Lay.len, Lay.lens]) _ rfl rfl ?_
  refine AL_ev (Ev_move) rfl ?_
  first | refine AL_append rfl rfl rfl te23 ts9 tz9 rfl tb9 (by decide) (by decide) rfl (by first | rfl | (simp; done) | (simp; omega)) (Src_sl rfl) (by simp only [lim]; first | omega | (simp; done) | (simp; omega)) _ rfl rfl ?_ | refine AL_append rfl rfl rfl te23 ts9 tz9 rfl tb9 (by decide) (by decide) rfl (by first | rfl | (simp; done) | (simp; omega)) (Src_ref rfl rfl rfl rfl) (by simp only [lim]; first | omega | (simp; done) | (simp; omega)) _ rfl rfl ?_ | refine AL_append rfl rfl rfl te23 ts9 tz9 rfl tb9 (by decide) (by decide) rfl (by first | rfl | (simp; done) | (simp; omega)) (Src_nil rfl) (by simp only [lim]; first | omega | (simp; done) | (simp; omega)) _ rfl rfl ?_
  refine AL_ev (Ev_assign) rfl ?_
  refine AL_nil ?_
  refine hK2 _ _ _ ?_
  refine AC_seq fun K3 hK3 => ?_
  refine AC_seq fun K4 hK4 => ?_
  refine AC_region ?_
  refine AL_ev (Ev_assign) rfl ?_
  refine AL_nil ?_
  refine hK4 _ _ _ ?_
  refine AC_block ?_
  refine AC_loopS [1] (Nat × List ByteArray) (fun ⟨j, out⟩ => [(6, i64 j), (5, .d (.sl .one (strs out))), (2, .d (.rp (Lay.st [.one, .one]) (injD d) []))]) (fun ⟨j, out⟩ => []) (fun st => es.length - st.1) (fun ⟨j, out⟩ => j ≤ es.length ∧ (addR d es es = addR d (es.drop j) out ∧ out.length + wR d (es.drop j) ≤ 1099511627776)) ((0, es)) ?_ ?_ ?_
  · skip
    exact enterS [] rfl rfl BxTo_nil (SlTo_cons (by first | exact .rd .d | exact Vw_int (by first | rfl | assumption | omega | (simp; done) | (simp; omega)) | exact Vw_c (by first | rfl | (simp; done) | simp_all) | exact .rd (.ref (srcFree rfl) rfl rfl (by simp) (ReadsL_eq (by simp))) | exact .any) (SlTo_cons (by first | exact .rd .d | exact Vw_int (by first | rfl | assumption | omega | (simp; done) | (simp; omega)) | exact Vw_c (by first | rfl | (simp; done) | simp_all) | exact .rd (.ref (srcFree rfl) rfl rfl (by simp) (ReadsL_eq (by simp))) | exact .any) (SlTo_cons (by first | exact .rd (.ptr (srcFree rfl) rfl rfl rfl .d) | exact .rd .d) (SlTo_cons (by first | exact .rd .d | exact .any) SlTo_nil))))
  · skip
    exact ⟨Nat.zero_le _, by simp, by simpa using hwr⟩
  rintro ⟨j, out⟩ ⟨hj, ⟨hI, ho⟩⟩
  show AC _ _ _ _ _ (FS [1] _ [(6, i64 j), (5, .d (.sl .one (strs out))), (2, .d (.rp (Lay.st [.one, .one]) (injD d) []))]) []
  refine AC_seq fun K5 hK5 => ?_
  refine AC_seq fun K6 hK6 => ?_
  refine AC_region ?_
  refine AL_ev (Ev_move) rfl ?_
  refine AL_ev (Ev_move) rfl ?_
  first | refine AL_lim (x := (Operand.tmp 16)) rfl fun hl1 => ?_ | refine AL_limB (x := (Operand.tmp 16)) rfl rfl (by first | rfl | (simp; done) | (simp; omega)) fun hl1 => ?_ | have hl1 := True.intro
  try simp only [injs_length, ints_length, strs_length, injCs_length, List.length_map] at hl1
  first | refine AL_ev (Ev_len_strs te23 rfl) rfl ?_ | refine AL_ev (Ev_len_sl te23 rfl) rfl ?_ | refine AL_ev (Ev_len_ref te23 rfl) rfl ?_ | refine AL_ev (Ev_len_nil te23 rfl) rfl ?_ | refine AL_ev (Ev_len_c te23 rfl) rfl ?_
  refine AL_ev (Ev_lss rfl rfl) rfl ?_
  refine AL_nil ?_
  refine hK6 _ _ _ ?_
  refine AC_cond rfl (fun hc1 => ?_) (fun hc1 => ?_)
  · skip
    have hlt : j < es.length := by simpa using hc1
    obtain ⟨u, hu⟩ : ∃ x, es[j]? = some x := ⟨_, List.getElem?_eq_getElem hlt⟩
    have hu2 := strs_get hu
    have hdr := drop_get hu
    rw [hdr, addR] at hI
    rw [hdr, wR] at ho
    have hcv := hcu u
    refine AC_skip ?_
    refine hK5 _ _ _ ?_
    refine AC_seq fun K7 hK7 => ?_
    refine AC_block ?_
    refine AC_seq fun K8 hK8 => ?_
    refine AC_draw hT follows [0, 1, 2, 3, 4, 5, 6] (by kernel_rfl) ?_
    first | refine DT_ev rfl (EA_load_ptr rfl rfl rfl rfl rfl rfl ts30 ta30 (by first | rfl | simp) (by intro h; cases h)) rfl ?_ | refine DT_ev rfl (EA_load_rp rfl rfl rfl ts30 ta30 (by first | rfl | simp) (by intro h; cases h)) rfl ?_
    refine DT_ev rfl (EA_move) rfl ?_
    refine DT_ev rfl (EA_move) rfl ?_
    first | refine DT_ev rfl (EA_ix_sl rfl rfl te23 ts9 (by omega) (by assumption)) rfl ?_ | refine DT_ev rfl (EA_ix_ref rfl rfl te23 ts9 (by omega) (by first | omega | (simp; omega))) rfl ?_
    first | refine DT_ev rfl (EA_load_ptr rfl rfl rfl rfl rfl rfl ts9 ta9 rfl (fun _ => rfl)) rfl ?_ | refine DT_ev rfl (EA_load_rp rfl rfl rfl ts9 ta9 rfl (fun _ => rfl)) rfl ?_
    refine DT_fcall0 rfl rfl cl48 (c_specReachedFrom d u (by omega)) rfl rfl ?_
    refine DT_ev rfl (EA_assign) rfl ?_
    refine DTi.nil ?_
    refine hK8 _ _ _ ?_
    refine AC_seq fun K9 hK9 => ?_
    refine AC_region ?_
    refine AL_ev (Ev_assign) rfl ?_
    refine AL_nil ?_
    refine hK9 _ _ _ ?_
    refine AC_block ?_
    refine AC_loopS [1, 2, 6, 7] (Nat × List ByteArray) (fun ⟨i, ou2⟩ => [(8, i64 i), (5, .d (.sl .one (strs ou2)))]) (fun ⟨i, ou2⟩ => []) (fun st => (reachedFrom d u).length - st.1) (fun ⟨i, ou2⟩ => i ≤ (reachedFrom d u).length ∧ (addAll out (reachedFrom d u) = addAll ou2 ((reachedFrom d u).drop i) ∧ ou2.length + ((reachedFrom d u).drop i).length + wR d (es.drop (j + 1)) ≤ 1099511627776)) ((0, out)) ?_ ?_ ?_
    · skip
      exact enterS [] rfl rfl BxTo_nil (SlTo_cons (by first | exact .rd .d | exact Vw_int (by first | rfl | assumption | omega | (simp; done) | (simp; omega)) | exact Vw_c (by first | rfl | (simp; done) | simp_all) | exact .any) (SlTo_cons (by first | exact .rd .d | exact Vw_int (by first | rfl | assumption | omega | (simp; done) | (simp; omega)) | exact Vw_c (by first | rfl | (simp; done) | simp_all) | exact .any) (SlTo_cons (by first | exact .rd .d | exact .any) (SlTo_cons (by first | exact .rd .d | exact .any) (SlTo_cons (by first | exact .rd .d | exact .any) (SlTo_cons (by first | exact .rd .d | exact .any) SlTo_nil))))))
    · skip
      exact ⟨Nat.zero_le _, by simp, by simp; omega⟩
    rintro ⟨i, ou2⟩ ⟨hj, ⟨hI2, ho2⟩⟩
    show AC _ _ _ _ _ (FS [1, 2, 6, 7] _ [(8, i64 i), (5, .d (.sl .one (strs ou2)))]) []
    refine AC_seq fun K10 hK10 => ?_
    refine AC_seq fun K11 hK11 => ?_
    refine AC_region ?_
    refine AL_ev (Ev_move) rfl ?_
    refine AL_ev (Ev_move) rfl ?_
    first | refine AL_lim (x := (Operand.tmp 28)) rfl fun hl2 => ?_ | refine AL_limB (x := (Operand.tmp 28)) rfl rfl (by first | rfl | (simp; done) | (simp; omega)) fun hl2 => ?_ | have hl2 := True.intro
    try simp only [injs_length, ints_length, strs_length, injCs_length, List.length_map] at hl2
    first | refine AL_ev (Ev_len_strs te23 rfl) rfl ?_ | refine AL_ev (Ev_len_sl te23 rfl) rfl ?_ | refine AL_ev (Ev_len_ref te23 rfl) rfl ?_ | refine AL_ev (Ev_len_nil te23 rfl) rfl ?_ | refine AL_ev (Ev_len_c te23 rfl) rfl ?_
    refine AL_ev (Ev_lss rfl rfl) rfl ?_
    refine AL_nil ?_
    refine hK11 _ _ _ ?_
    refine AC_cond rfl (fun hc2 => ?_) (fun hc2 => ?_)
    · skip
      have hlt : i < (reachedFrom d u).length := by simpa using hc2
      obtain ⟨v, hu⟩ : ∃ x, (reachedFrom d u)[i]? = some x := ⟨_, List.getElem?_eq_getElem hlt⟩
      have hu2 := strs_get hu
      have hdr := drop_get hu
      rw [hdr] at hI2 ho2
      rw [addAll] at hI2
      rw [List.length_cons] at ho2
      have hol := onceL_len ou2 v
      refine AC_skip ?_
      refine hK10 _ _ _ ?_
      refine AC_seq fun K12 hK12 => ?_
      refine AC_block ?_
      refine AC_region ?_
      refine AL_ev (Ev_move) rfl ?_
      refine AL_ev (Ev_move) rfl ?_
      refine AL_ev (Ev_move) rfl ?_
      first | refine AL_ev (Ev_ix_sl rfl rfl te23 ts9 (by omega) (by assumption)) rfl ?_ | refine AL_ev (Ev_ix_ref rfl rfl te23 ts9 (by omega) (by first | omega | (simp; omega))) rfl ?_
      first | refine AL_ev (Ev_load_ptr rfl rfl rfl rfl rfl rfl ts9 ta9 rfl (fun _ => rfl)) rfl ?_ | refine AL_ev (Ev_load_rp rfl rfl rfl ts9 ta9 rfl (fun _ => rfl)) rfl ?_
      refine AL_fcall0 hT rfl cl59 (c_l23Add ou2 v (by omega)) rfl rfl ?_
      refine AL_ev (Ev_assign) rfl ?_
      refine AL_nil ?_
      refine hK12 _ _ _ ?_
      refine AC_region ?_
      refine AL_ev (Ev_move) rfl ?_
      first | refine AL_ev (Ev_add rfl rfl _ (wrap_id (by first | omega | (simp; omega)) (by first | omega | (simp; omega)))) rfl ?_ | refine AL_ev (Ev_add rfl rfl _ rfl) rfl ?_
      refine AL_ev (Ev_assign) rfl ?_
      refine AL_nil ?_
      refine closeS (i + 1, onceL ou2 v) [] rfl rfl (by show (reachedFrom d u).length - (i + 1) < (reachedFrom d u).length - i; omega) ⟨hlt, ?_⟩ BxTo_nil (SlTo_cons (by first | exact .rd .d | exact Vw_int (by first | rfl | assumption | omega | (simp; done) | (simp; omega)) | exact Vw_c (by first | rfl | (simp; done) | simp_all) | exact .any) (SlTo_cons (by first | exact .rd .d | exact Vw_int (by first | rfl | assumption | omega | (simp; done) | (simp; omega)) | exact Vw_c (by first | rfl | (simp; done) | simp_all) | exact .any) (SlTo_cons (by first | exact .rd .d | exact .any) (SlTo_cons (by first | exact .rd .d | exact .any) (SlTo_cons (by first | exact .rd .d | exact .any) (SlTo_cons (by first | exact .rd .d | exact .any) SlTo_nil))))))
      exact ⟨hI2, by omega⟩
    · skip
      have hj2 : i = (reachedFrom d u).length := by
        have : ¬ i < (reachedFrom d u).length := by simpa using hc2
        omega
      subst hj2
      refine AC_exit ?_
      refine hK7 _ _ _ ?_
      refine AC_region ?_
      refine AL_ev (Ev_move) rfl ?_
      first | refine AL_ev (Ev_add rfl rfl _ (wrap_id (by first | omega | (simp; omega)) (by first | omega | (simp; omega)))) rfl ?_ | refine AL_ev (Ev_add rfl rfl _ rfl) rfl ?_
      refine AL_ev (Ev_assign) rfl ?_
      refine AL_nil ?_
      refine closeS (j + 1, ou2) [] rfl rfl (by show es.length - (j + 1) < es.length - j; omega) ⟨hlt, ?_⟩ BxTo_nil (SlTo_cons (by first | exact .rd .d | exact Vw_int (by first | rfl | assumption | omega | (simp; done) | (simp; omega)) | exact Vw_c (by first | rfl | (simp; done) | simp_all) | exact .rd (.ref (srcFree rfl) rfl rfl (by simp) (ReadsL_eq (by simp))) | exact .any) (SlTo_cons (by first | exact .rd .d | exact Vw_int (by first | rfl | assumption | omega | (simp; done) | (simp; omega)) | exact Vw_c (by first | rfl | (simp; done) | simp_all) | exact .rd (.ref (srcFree rfl) rfl rfl (by simp) (ReadsL_eq (by simp))) | exact .any) (SlTo_cons (by first | exact .rd (.ptr (srcFree rfl) rfl rfl rfl .d) | exact .rd .d) (SlTo_cons (by first | exact .rd .d | exact .any) SlTo_nil))))
      rw [List.drop_length, addAll] at hI2
      rw [List.drop_length] at ho2
      exact ⟨by rw [hI, hI2], by simp at ho2; omega⟩
  · skip
    have hj2 : j = es.length := by
      have : ¬ j < es.length := by simpa using hc1
      omega
    subst hj2
    rw [List.drop_length] at hI
    refine AC_exit ?_
    refine hK3 _ _ _ ?_
    refine AC_seq fun K13 hK13 => ?_
    refine AC_region ?_
    refine AL_bV .one rfl te23 ts9 tz9 rfl rfl (by decide) (by decide) (by first | rfl | simp [lenDs, goodVs, goodV, V.known, Lay.len, Lay.lens]) _ rfl rfl ?_
    refine AL_ev (Ev_assign) rfl ?_
    refine AL_nil ?_
    refine hK13 _ _ _ ?_
    refine AC_seq fun K14 hK14 => ?_
    refine AC_region ?_
    first | refine AL_ev (Ev_load_ptr rfl rfl rfl rfl rfl rfl ts30 ta30 (by first | rfl | simp) (by intro h; cases h)) rfl ?_ | refine AL_ev (Ev_load_rp rfl rfl rfl ts30 ta30 (by first | rfl | simp) (by intro h; cases h)) rfl ?_
    refine AL_fcall0 hT rfl cl16 (hps ▸ c_specPredsOf d (by omega)) rfl rfl ?_
    refine AL_ev (Ev_assign) rfl ?_
    refine AL_nil ?_
    refine hK14 _ _ _ ?_
    refine AC_seq fun K15 hK15 => ?_
    refine AC_seq fun K16 hK16 => ?_
    refine AC_region ?_
    refine AL_ev (Ev_assign) rfl ?_
    refine AL_nil ?_
    refine hK16 _ _ _ ?_
    refine AC_block ?_
    refine AC_loopS [5, 10] (Nat × List ByteArray) (fun ⟨j2, fo⟩ => [(11, i64 j2), (9, .ref .one 0 0 (strs fo).length)]) (fun ⟨j2, fo⟩ => [some ⟨9, .one, (strs fo).map V.d⟩]) (fun st => ps.length - st.1) (fun ⟨j2, fo⟩ => j2 ≤ ps.length ∧ (ps.filter (fun x => !hasS out x) = fo ++ (ps.drop j2).filter (fun x => !hasS out x) ∧ fo.length ≤ j2)) ((0, [])) ?_ ?_ ?_
    · skip
      exact enterS [some 0] rfl rfl (BxTo_some rfl rfl rfl rfl (by first | exact .nil | exact VwL_dd (by first | rfl | simp) | exact VwL_app (by first | rfl | simp) | exact VwL_of (by first | rfl | simp)) BxTo_nil) (SlTo_cons (by first | exact .rd .d | exact Vw_int (by first | rfl | assumption | omega | (simp; done) | (simp; omega)) | exact Vw_c (by first | rfl | (simp; done) | simp_all) | exact .any) (SlTo_cons (Vw_refe rfl (by first | rfl | simp)) (SlTo_cons (by first | exact .rd .d | exact .any) (SlTo_cons (by first | exact .rd .d | exact .any) SlTo_nil))))
    · skip
      exact ⟨Nat.zero_le _, by simp, by simp⟩
    rintro ⟨j2, fo⟩ ⟨hj, ⟨hI3, ho3⟩⟩
    show AC _ _ _ _ _ (FS [5, 10] _ [(11, i64 j2), (9, .ref .one 0 0 (strs fo).length)]) [some ⟨9, .one, (strs fo).map V.d⟩]
    refine AC_seq fun K17 hK17 => ?_
    refine AC_seq fun K18 hK18 => ?_
    refine AC_region ?_
    refine AL_ev (Ev_move) rfl ?_
    refine AL_ev (Ev_move) rfl ?_
    first | refine AL_lim (x := (Operand.tmp 43)) rfl fun hl3 => ?_ | refine AL_limB (x := (Operand.tmp 43)) rfl rfl (by first | rfl | (simp; done) | (simp; omega)) fun hl3 => ?_ | have hl3 := True.intro
    try simp only [injs_length, ints_length, strs_length, injCs_length, List.length_map] at hl3
    first | refine AL_ev (Ev_len_strs te23 rfl) rfl ?_ | refine AL_ev (Ev_len_sl te23 rfl) rfl ?_ | refine AL_ev (Ev_len_ref te23 rfl) rfl ?_ | refine AL_ev (Ev_len_nil te23 rfl) rfl ?_ | refine AL_ev (Ev_len_c te23 rfl) rfl ?_
    refine AL_ev (Ev_lss rfl rfl) rfl ?_
    refine AL_nil ?_
    refine hK18 _ _ _ ?_
    refine AC_cond rfl (fun hc3 => ?_) (fun hc3 => ?_)
    · skip
      have hlt : j2 < ps.length := by simpa using hc3
      obtain ⟨v, hu⟩ : ∃ x, ps[j2]? = some x := ⟨_, List.getElem?_eq_getElem hlt⟩
      have hu2 := strs_get hu
      have hdr := drop_get hu
      rw [hdr, List.filter_cons] at hI3
      refine AC_skip ?_
      refine hK17 _ _ _ ?_
      refine AC_seq fun K19 hK19 => ?_
      refine AC_block ?_
      refine AC_seq fun K20 hK20 => ?_
      refine AC_region ?_
      refine AL_ev (Ev_move) rfl ?_
      refine AL_ev (Ev_move) rfl ?_
      refine AL_ev (Ev_move) rfl ?_
      first | refine AL_ev (Ev_ix_sl rfl rfl te23 ts9 (by omega) (by assumption)) rfl ?_ | refine AL_ev (Ev_ix_ref rfl rfl te23 ts9 (by omega) (by first | omega | (simp; omega))) rfl ?_
      first | refine AL_ev (Ev_load_ptr rfl rfl rfl rfl rfl rfl ts9 ta9 rfl (fun _ => rfl)) rfl ?_ | refine AL_ev (Ev_load_rp rfl rfl rfl ts9 ta9 rfl (fun _ => rfl)) rfl ?_
      refine AL_fcall0 hT rfl cl78 (c_l23Has out v) rfl rfl ?_
      refine AL_ev (Ev_not rfl) rfl ?_
      refine AL_nil ?_
      refine hK20 _ _ _ ?_
      refine AC_cond rfl (fun hc4 => ?_) (fun hc4 => ?_)
      · skip
        refine AC_region ?_
        refine AL_ev (Ev_move) rfl ?_
        refine AL_ev (Ev_move) rfl ?_
        refine AL_ev (Ev_move) rfl ?_
        first | refine AL_ev (Ev_ix_sl rfl rfl te23 ts9 (by omega) (by assumption)) rfl ?_ | refine AL_ev (Ev_ix_ref rfl rfl te23 ts9 (by omega) (by first | omega | (simp; omega))) rfl ?_
        first | refine AL_ev (Ev_load_ptr rfl rfl rfl rfl rfl rfl ts9 ta9 rfl (fun _ => rfl)) rfl ?_ | refine AL_ev (Ev_load_rp rfl rfl rfl ts9 ta9 rfl (fun _ => rfl)) rfl ?_
        first | refine AL_bD .one rfl te23 ts9 tz9 rfl rfl (by decide) (by decide) (by first | rfl | simp [lenDs, goodVs, goodV, V.known, Lay.len, Lay.lens]) rfl ?_ | refine AL_bV .one rfl te23 ts9 tz9 rfl rfl (by decide) (by decide) (by first | rfl | simp [lenDs, goodVs, goodV, V.known, Lay.len, Lay.lens]) _ rfl rfl ?_
        first | refine AL_append rfl rfl rfl te23 ts9 tz9 rfl tb9 (by decide) (by decide) rfl (by first | rfl | (simp; done) | (simp; omega)) (Src_sl rfl) (by simp only [lim]; first | omega | (simp; done) | (simp; omega)) _ rfl rfl ?_ | refine AL_append rfl rfl rfl te23 ts9 tz9 rfl tb9 (by decide) (by decide) rfl (by first | rfl | (simp; done) | (simp; omega)) (Src_ref rfl rfl rfl rfl) (by simp only [lim]; first | omega | (simp; done) | (simp; omega)) _ rfl rfl ?_ | refine AL_append rfl rfl rfl te23 ts9 tz9 rfl tb9 (by decide) (by decide) rfl (by first | rfl | (simp; done) | (simp; omega)) (Src_nil rfl) (by simp only [lim]; first | omega | (simp; done) | (simp; omega)) _ rfl rfl ?_
        refine AL_ev (Ev_assign) rfl ?_
        refine AL_nil ?_
        refine hK19 _ _ _ ?_
        refine AC_region ?_
        refine AL_ev (Ev_move) rfl ?_
        first | refine AL_ev (Ev_add rfl rfl _ (wrap_id (by first | omega | (simp; omega)) (by first | omega | (simp; omega)))) rfl ?_ | refine AL_ev (Ev_add rfl rfl _ rfl) rfl ?_
        refine AL_ev (Ev_assign) rfl ?_
        refine AL_nil ?_
        refine closeS (j2 + 1, fo ++ [v]) [some 1] rfl rfl (by show ps.length - (j2 + 1) < ps.length - j2; omega) ⟨hlt, ?_⟩ (BxTo_some rfl rfl rfl rfl (by first | exact VwL_app (by first | rfl | simp [ints, strs] | simp [ints, strs, injs_map]) | exact VwL_dd (by first | rfl | simp [ints, strs] | simp [ints, strs, injs_map]) | exact VwL_of (by first | rfl | simp [ints, strs] | simp [ints, strs, injs_map])) BxTo_nil) (SlTo_cons (by first | exact .rd .d | exact Vw_int (by first | rfl | assumption | omega | (simp; done) | (simp; omega)) | exact Vw_c (by first | rfl | (simp; done) | simp_all) | exact .any) (SlTo_cons (Vw_refe rfl (by first | rfl | simp | (simp; omega))) (SlTo_cons (by first | exact .rd .d | exact .any) (SlTo_cons (by first | exact .rd .d | exact .any) SlTo_nil))))
        exact ⟨by rw [hI3, if_pos (by simp_all)]; simp, by simp; omega⟩
      · skip
        refine AC_skip ?_
        refine hK19 _ _ _ ?_
        refine AC_region ?_
        refine AL_ev (Ev_move) rfl ?_
        first | refine AL_ev (Ev_add rfl rfl _ (wrap_id (by first | omega | (simp; omega)) (by first | omega | (simp; omega)))) rfl ?_ | refine AL_ev (Ev_add rfl rfl _ rfl) rfl ?_
        refine AL_ev (Ev_assign) rfl ?_
        refine AL_nil ?_
        refine closeS (j2 + 1, fo) [some 0] rfl rfl (by show ps.length - (j2 + 1) < ps.length - j2; omega) ⟨hlt, ?_⟩ (BxTo_some rfl rfl rfl rfl (by first | exact VwL_app (by first | rfl | simp [ints, strs] | simp [ints, strs, injs_map]) | exact VwL_dd (by first | rfl | simp [ints, strs] | simp [ints, strs, injs_map]) | exact VwL_of (by first | rfl | simp [ints, strs] | simp [ints, strs, injs_map])) BxTo_nil) (SlTo_cons (by first | exact .rd .d | exact Vw_int (by first | rfl | assumption | omega | (simp; done) | (simp; omega)) | exact Vw_c (by first | rfl | (simp; done) | simp_all) | exact .any) (SlTo_cons (Vw_refe rfl (by first | rfl | simp | (simp; omega))) (SlTo_cons (by first | exact .rd .d | exact .any) (SlTo_cons (by first | exact .rd .d | exact .any) SlTo_nil))))
        exact ⟨by rw [hI3, if_neg (by simp_all)], by omega⟩
    · skip
      have hj2 : j2 = ps.length := by
        have : ¬ j2 < ps.length := by simpa using hc3
        omega
      subst hj2
      refine AC_exit ?_
      refine hK15 _ _ _ ?_
      refine AC_seq fun K21 hK21 => ?_
      refine AC_region ?_
      refine AL_ev (Ev_move) rfl ?_
      refine AL_ev (Ev_assign) rfl ?_
      refine AL_nil ?_
      refine hK21 _ _ _ ?_
      refine AC_ret ?_
      refine ret_ok hdm (.tmp rfl rfl .nil) (.cons (.ref trivial rfl rfl (by simp) (ReadsL_d _)) .nil) ?_
      rw [addR] at hI
      rw [List.drop_length] at hI3
      simp only [List.filter_nil, List.append_nil] at hI3
      rw [show unreached d es = fo from by rw [hmd, hI, hI3]]

set_option maxHeartbeats 1000000 in
set_option maxRecDepth 4000 in
theorem c_lawUnreached (d : Dbt) (es : List ByteArray) (hb : bulkD d + (es.length + bulkSs es) ≤ 1048576) : PCall Tryd.prog 14 [injD d, .sl .one (strs es)] (· = [.c (.bool true)]) := by
  have hsn := bulkSs_nn es
  have hcs := cntCs_nn d.cs
  have hcb := cntCs_bulk d.cs
  obtain ⟨hb1, hb2, hb3, hb4⟩ := bulkD_bd (cs := d.cs) (op := d.op) (B := 1048576) (by show bulkD d ≤ _; omega)
  have hbn : 0 ≤ bulkD d := by have := bulkCs_nn d.cs; have := bulkSs_nn d.op; unfold bulkD; omega
  have hrl := unreached_len d es
  have hS : OCall Tryd.prog 57 [injD d, .sl .one (strs es)] (.sl .one (strs (unreached d es))) := (c_unreached d es hb).ocall
  refine PCall_of (n := 92) Tryd.func14 rfl rfl (Nat.le_of_ble_eq_true rfl) fun C hdm hT0 => ?_
  have hT := hT0
  have hX0 := CExt.refl C
  refine AC_seq fun K1 hK1 => ?_
  refine AC_region ?_
  refine AL_box (Lay.st [.one, .one]) (nf rfl) rfl (by first | rfl | simp [Lay.len, Lay.lens]) _ rfl rfl ?_
  refine AL_ev (Ev_assign) rfl ?_
  refine AL_nil ?_
  refine hK1 _ _ _ ?_
  refine AC_seq fun K2 hK2 => ?_
  refine AC_region ?_
  refine AL_ev (Ev_assign) rfl ?_
  refine AL_nil ?_
  refine hK2 _ _ _ ?_
  refine AC_seq fun K3 hK3 => ?_
  refine AC_region ?_
  first | refine AL_ev (Ev_load_ptr rfl rfl rfl rfl rfl rfl ts25 ta25 (by first | rfl | simp) (by intro h; cases h)) rfl ?_ | refine AL_ev (Ev_load_rp rfl rfl rfl ts25 ta25 (by first | rfl | simp) (by intro h; cases h)) rfl ?_
  refine AL_ev (Ev_move) rfl ?_
  refine AL_fcall0 hT rfl cl15 (c_szDb d 1048576 (by omega) (by omega)) rfl rfl ?_
  refine AL_ev (Ev_assign) rfl ?_
  refine AL_nil ?_
  refine hK3 _ _ _ ?_
  refine AC_seq fun K4 hK4 => ?_
  refine AC_seq fun K5 hK5 => ?_
  refine AC_region ?_
  refine AL_ev (Ev_move) rfl ?_
  refine AL_ev (Ev_lss rfl rfl) rfl ?_
  refine AL_nil ?_
  refine hK5 _ _ _ ?_
  refine AC_cond rfl (fun hc1 => ?_) (fun hc1 => ?_)
  · skip
    have : (1048576 : Int) - (bulkD d) < 0 := by simpa using hc1
    omega
  · skip
    refine AC_skip ?_
    refine hK4 _ _ _ ?_
    refine AC_seq fun K6 hK6 => ?_
    refine AC_region ?_
    refine AL_ev (Ev_move) rfl ?_
    refine AL_ev (Ev_move) rfl ?_
    refine AL_fcall0 hT rfl cl54 (c_szStringS es (1048576 - bulkD d) (by omega) (by omega)) rfl rfl ?_
    refine AL_ev (Ev_assign) rfl ?_
    refine AL_nil ?_
    refine hK6 _ _ _ ?_
    refine AC_seq fun K7 hK7 => ?_
    refine AC_seq fun K8 hK8 => ?_
    refine AC_region ?_
    refine AL_ev (Ev_move) rfl ?_
    refine AL_ev (Ev_lss rfl rfl) rfl ?_
    refine AL_nil ?_
    refine hK8 _ _ _ ?_
    refine AC_cond rfl (fun hc2 => ?_) (fun hc2 => ?_)
    · skip
      have : (1048576 : Int) - bulkD d - (es.length + bulkSs es) < 0 := by simpa using hc2
      omega
    · skip
      refine AC_skip ?_
      refine hK7 _ _ _ ?_
      refine AC_seq fun K9 hK9 => ?_
      refine AC_region ?_
      first | refine AL_ev (Ev_load_ptr rfl rfl rfl rfl rfl rfl ts25 ta25 (by first | rfl | simp) (by intro h; cases h)) rfl ?_ | refine AL_ev (Ev_load_rp rfl rfl rfl ts25 ta25 (by first | rfl | simp) (by intro h; cases h)) rfl ?_
      refine AL_fcall0 hT rfl cl17 ((c_toDb d).pcall) rfl rfl ?_
      refine AL_ev (Ev_move) rfl ?_
      refine AL_fcall0 hT rfl cl56 ((c_toStringS es).pcall) rfl rfl ?_
      refine AL_fcall0 hT rfl cl55 (c_specUnreached d es hb) rfl rfl ?_
      refine AL_ev (Ev_assign) rfl ?_
      refine AL_nil ?_
      refine hK9 _ _ _ ?_
      refine AC_seq fun K10 hK10 => ?_
      refine AC_region ?_
      first | refine AL_ev (Ev_load_ptr rfl rfl rfl rfl rfl rfl ts25 ta25 (by first | rfl | simp) (by intro h; cases h)) rfl ?_ | refine AL_ev (Ev_load_rp rfl rfl rfl ts25 ta25 (by first | rfl | simp) (by intro h; cases h)) rfl ?_
      refine AL_ocall0 hT LD rfl cl17 (c_toDb d) rfl (injD_lenL d) (injD_agL d) rfl fun C1 cs1 K1 hg1 => ?_
      have hX1 := hX0.trans hg1.ext
      have hT := hT.ext hg1.ext
      have hx := hg1.has
      refine AL_alloc zo30 _ rfl rfl ?_
      first | refine AL_store rfl (nf rfl) rfl rfl rfl rfl rfl rfl (by first | rfl | simp [Lay.len, Lay.lens]) ts30 rfl rfl ?_ | refine AL_store rfl (nf rfl) rfl rfl rfl hes rfl rfl (by first | rfl | simp [Lay.len, Lay.lens]) ts30 rfl rfl ?_
      refine AL_nil ?_
      refine hK10 _ _ _ ?_
      refine AC_seq fun K11 hK11 => ?_
      refine AC_region ?_
      refine AL_ev (Ev_move) rfl ?_
      refine AL_ocall0 hT .one rfl cl56 (c_toStringS es) rfl rfl rfl rfl fun C2 cs2 K2 hg2 => ?_
      have hX2 := hX1.trans hg2.ext
      have hT := hT.ext hg2.ext
      have hxe := hg2.has
      have hape := hg2.apart hx
      have hx := hx.ext hg2.ext
      refine AL_ev (Ev_assign) rfl ?_
      refine AL_nil ?_
      refine hK11 _ _ _ ?_
      refine AC_seq fun K12 hK12 => ?_
      refine AC_region ?_
      first | refine AL_ev (Ev_load_ptr rfl rfl rfl rfl rfl rfl ts30 ta30 (by first | rfl | simp) (by intro h; cases h)) rfl ?_ | refine AL_ev (Ev_load_rp rfl rfl rfl ts30 ta30 (by first | rfl | simp) (by intro h; cases h)) rfl ?_
      refine AL_ev (Ev_move) rfl ?_
      refine AL_qocall hT .one rfl cl57 hS (.cons (.raw (l := LD) (cs := cs1) hx hg1.len (injD_agL d)) (.cons (.raw (l := .one) (cs := cs2) hxe hg2.len rfl) .nil)) rfl rfl rfl fun C9 cs9 K9 hg9 => ?_
      have hap := hg9.apart hx
      have hap2 := hg9.apart hxe
      have hx := hx.ext hg9.ext
      have hxe := hxe.ext hg9.ext
      have hX9 := hX2.trans hg9.ext
      have hT := hT.ext hg9.ext
      obtain ⟨A9, rfl⟩ := one_cell_of hg9.has
      have hG := hg9.has
      refine AL_ev (Ev_assign) rfl ?_
      refine AL_nil ?_
      refine hK12 _ _ _ ?_
      refine AC_seq fun K13 hK13 => ?_
      refine AC_seq fun K14 hK14 => ?_
      refine AC_region ?_
      refine AL_ev (Ev_move) rfl ?_
      refine AL_ev (Ev_move) rfl ?_
      refine AL_qcall hT rfl cl19 (c_eqStringS (unreached d es)) (.cons (.raw (l := .one) (cs := [A9]) hG rfl rfl) (.cons (.rd .d) .nil)) rfl ?_
      refine AL_ev (Ev_not rfl) rfl ?_
      refine AL_nil ?_
      refine hK14 _ _ _ ?_
      refine AC_cond rfl (fun hc3 => ?_) (fun hc3 => ?_)
      · skip
        exact absurd hc3 (by simp)
      · skip
        refine AC_skip ?_
        refine hK13 _ _ _ ?_
        refine AC_seq fun K15 hK15 => ?_
        refine AC_seq fun K16 hK16 => ?_
        refine AC_draw hT follows [0, 1, 2, 3, 4] (by kernel_rfl) ?_
        first | refine DT_ev rfl (EA_load_ptr rfl rfl rfl rfl rfl rfl ts30 ta30 (by first | rfl | simp) (by intro h; cases h)) rfl ?_ | refine DT_ev rfl (EA_load_rp rfl rfl rfl ts30 ta30 (by first | rfl | simp) (by intro h; cases h)) rfl ?_
        first | refine DT_ev rfl (EA_load_ptr rfl rfl rfl rfl rfl rfl ts25 ta25 (by first | rfl | simp) (by intro h; cases h)) rfl ?_ | refine DT_ev rfl (EA_load_rp rfl rfl rfl ts25 ta25 (by first | rfl | simp) (by intro h; cases h)) rfl ?_
        refine DT_fcall0 rfl rfl cl17 ((c_toDb d).pcall) rfl rfl ?_
        refine DT_qcall hT rfl rfl cl20 (c_eqDb d) (fun L2 => .cons (.raw (l := LD) (cs := cs1) hx hg1.len (injD_agL d)) (.cons (.rd .d) .nil)) rfl (by kernel_rfl) ?_
        refine DT_ev rfl (EA_not rfl) rfl ?_
        refine DTi.nil ?_
        refine hK16 _ _ _ ?_
        refine AC_cond rfl (fun hc4 => ?_) (fun hc4 => ?_)
        · skip
          exact absurd hc4 (by simp)
        · skip
          refine AC_skip ?_
          refine hK15 _ _ _ ?_
          refine AC_seq fun K17 hK17 => ?_
          refine AC_seq fun K18 hK18 => ?_
          refine AC_region ?_
          refine AL_ev (Ev_move) rfl ?_
          refine AL_ev (Ev_move) rfl ?_
          refine AL_fcall0 hT rfl cl56 ((c_toStringS es).pcall) rfl rfl ?_
          refine AL_qcall hT rfl cl19 (c_eqStringS es) (.cons (.raw (l := .one) (cs := cs2) hxe hg2.len rfl) (.cons (.rd .d) .nil)) rfl ?_
          refine AL_ev (Ev_not rfl) rfl ?_
          refine AL_nil ?_
          refine hK18 _ _ _ ?_
          refine AC_cond rfl (fun hc5 => ?_) (fun hc5 => ?_)
          · skip
            exact absurd hc5 (by simp)
          · skip
            refine AC_skip ?_
            refine hK17 _ _ _ ?_
            refine AC_seq fun K19 hK19 => ?_
            refine AC_region ?_
            refine AL_ev (Ev_assign) rfl ?_
            refine AL_nil ?_
            refine hK19 _ _ _ ?_
            refine AC_seq fun K20 hK20 => ?_
            refine AC_region ?_
            first | refine AL_ev (Ev_load_ptr rfl rfl rfl rfl rfl rfl ts30 ta30 (by first | rfl | simp) (by intro h; cases h)) rfl ?_ | refine AL_ev (Ev_load_rp rfl rfl rfl ts30 ta30 (by first | rfl | simp) (by intro h; cases h)) rfl ?_
            refine AL_ev (Ev_move) rfl ?_
            refine AL_mwk LD rfl cl21 (c_markDb d 1 (by omega) (by omega)) hx hg1.len (injD_agL d) rfl rfl rfl fun C3 hk3 => ?_
            have hX3 := hX9.marked hk3 (fun b hb => .inr (hx.lo b hb))
            have hT := hT0.ext hX3
            have hG := hG.marked hk3 hap
            have hxe := hxe.marked hk3 hape
            refine AL_ev (Ev_assign) rfl ?_
            refine AL_nil ?_
            refine hK20 _ _ _ ?_
            refine AC_seq fun K21 hK21 => ?_
            refine AC_region ?_
            refine AL_ev (Ev_move) rfl ?_
            refine AL_ev (Ev_move) rfl ?_
            refine AL_mwk .one rfl cl22 (c_markStringS es (1 + cntCs d.cs + d.op.length) (by omega) (by omega)).weak hxe hg2.len rfl rfl rfl rfl fun C5 hk5 => ?_
            have hX5 := hX3.marked hk5 (fun b hb => .inr (Nat.le_trans hX1.pres.size (hxe.lo b hb)))
            have hT := hT0.ext hX5
            have hG := hG.marked hk5 hap2
            refine AL_ev (Ev_assign) rfl ?_
            refine AL_nil ?_
            refine hK21 _ _ _ ?_
            refine AC_seq fun K22 hK22 => ?_
            refine AC_seq fun K23 hK23 => ?_
            refine AC_region ?_
            refine AL_ev (Ev_move) rfl ?_
            refine AL_ev (Ev_lss rfl rfl) rfl ?_
            refine AL_ev (Ev_move) rfl ?_
            refine AL_bool 58 rfl (fun hg6 => ?_) (fun hg6 => ?_)
            · skip
              have : (1 : Int) + cntCs d.cs + d.op.length + es.length < 0 := by simpa using hg6
              omega
            · skip
              refine AL_guard_t rfl rfl rfl ?_
              refine AL_ev (Ev_move) rfl ?_
              refine AL_guard_t rfl rfl rfl ?_
              refine AL_ev (Ev_move) rfl ?_
              refine AL_guard_t rfl rfl rfl ?_
              refine AL_qcall hT rfl cl19 (c_eqStringS (unreached d es)) (.cons (.raw (l := .one) (cs := [A9]) hG rfl rfl) (.cons (.rd .d) .nil)) rfl ?_
              refine AL_guard_t rfl rfl rfl ?_
              refine AL_ev (Ev_not rfl) rfl ?_
              refine AL_ev (Ev_pick rfl) rfl ?_
              refine AL_nil ?_
              refine hK23 _ _ _ ?_
              refine AC_cond rfl (fun hc7 => ?_) (fun hc7 => ?_)
              · skip
                exact absurd hc7 (by simp)
              · skip
                refine AC_skip ?_
                refine hK22 _ _ _ ?_
                refine AC_seq fun K24 hK24 => ?_
                refine AC_region ?_
                refine AL_ev (Ev_assign) rfl ?_
                refine AL_nil ?_
                refine hK24 _ _ _ ?_
                refine AC_seq fun K25 hK25 => ?_
                refine AC_region ?_
                refine AL_ev (Ev_move) rfl ?_
                refine AL_ev (Ev_move) rfl ?_
                refine AL_mcall .one rfl cl22 (c_markStringS (unreached d es) 1 (by omega) (by omega)) hG rfl rfl rfl rfl rfl fun C4 hk4 hG4 => ?_
                have hX4 := hX5.marked hk4 (fun b hb => .inr (Nat.le_trans hX2.pres.size (hG.lo b hb)))
                have hT := hT0.ext hX4
                refine AL_ev (Ev_assign) rfl ?_
                refine AL_nil ?_
                refine hK25 _ _ _ ?_
                refine AC_seq fun K26 hK26 => ?_
                refine AC_region ?_
                refine AL_ev (Ev_assign) rfl ?_
                refine AL_nil ?_
                refine hK26 _ _ _ ?_
                refine AC_seq fun K27 hK27 => ?_
                refine AC_region ?_
                refine AL_ev (Ev_move) rfl ?_
                refine AL_ev (Ev_move) rfl ?_
                refine AL_qcall hT rfl cl23 (c_heldStringS (unreached d es).length 1 (by omega) (by omega)) (.cons (.raw (l := .one) (cs := [A9]) hG4 rfl rfl) (.cons (.rd .d) .nil)) rfl ?_
                refine AL_ev (Ev_assign) rfl ?_
                refine AL_nil ?_
                refine hK27 _ _ _ ?_
                refine AC_seq fun K28 hK28 => ?_
                refine AC_seq fun K29 hK29 => ?_
                refine AC_region ?_
                refine AL_ev (Ev_move) rfl ?_
                refine AL_ev (Ev_lss rfl rfl) rfl ?_
                refine AL_nil ?_
                refine hK29 _ _ _ ?_
                refine AC_cond rfl (fun hc8 => ?_) (fun hc8 => ?_)
                · skip
                  have : (1 : Int) + ((unreached d es).length : Int) < 0 := by simpa using hc8
                  omega
                · skip
                  refine AC_skip ?_
                  refine hK28 _ _ _ ?_
                  refine AC_seq fun K30 hK30 => ?_
                  refine AC_seq fun K31 hK31 => ?_
                  refine AC_region ?_
                  refine AL_ev (Ev_move) rfl ?_
                  refine AL_ev (Ev_move) rfl ?_
                  refine AL_ev (Ev_neq rfl rfl) rfl ?_
                  refine AL_nil ?_
                  refine hK31 _ _ _ ?_
                  refine AC_cond rfl (fun hc9 => ?_) (fun hc9 => ?_)
                  · skip
                    exact absurd hc9 (by simp)
                  · skip
                    refine AC_skip ?_
                    refine hK30 _ _ _ ?_
                    refine AC_seq fun K32 hK32 => ?_
                    refine AC_region ?_
                    first | refine AL_ev (Ev_load_ptr rfl rfl rfl rfl rfl rfl ts25 ta25 (by first | rfl | simp) (by intro h; cases h)) rfl ?_ | refine AL_ev (Ev_load_rp rfl rfl rfl ts25 ta25 (by first | rfl | simp) (by intro h; cases h)) rfl ?_
                    refine AL_fcall0 hT rfl cl17 ((c_toDb d).pcall) rfl rfl ?_
                    refine AL_ev (Ev_move) rfl ?_
                    refine AL_fcall0 hT rfl cl56 ((c_toStringS es).pcall) rfl rfl ?_
                    refine AL_fcall0 hT rfl cl57 (hS.pcall) rfl rfl ?_
                    refine AL_ev (Ev_assign) rfl ?_
                    refine AL_nil ?_
                    refine hK32 _ _ _ ?_
                    refine AC_seq fun K33 hK33 => ?_
                    refine AC_seq fun K34 hK34 => ?_
                    refine AC_region ?_
                    refine AL_ev (Ev_move) rfl ?_
                    refine AL_ev (Ev_move) rfl ?_
                    refine AL_fcall0 hT rfl cl19 (c_eqStringS (unreached d es)) rfl rfl ?_
                    refine AL_ev (Ev_not rfl) rfl ?_
                    refine AL_nil ?_
                    refine hK34 _ _ _ ?_
                    refine AC_cond rfl (fun hc10 => ?_) (fun hc10 => ?_)
                    · skip
                      exact absurd hc10 (by simp)
                    · skip
                      refine AC_skip ?_
                      refine hK33 _ _ _ ?_
                      refine AC_seq fun K35 hK35 => ?_
                      refine AC_region ?_
                      refine AL_ev (Ev_assign) rfl ?_
                      refine AL_nil ?_
                      refine hK35 _ _ _ ?_
                      refine AC_seq fun K36 hK36 => ?_
                      refine AC_region ?_
                      refine AL_ev (Ev_move) rfl ?_
                      refine AL_ev (Ev_move) rfl ?_
                      refine AL_qcall hT rfl cl23 (c_heldStringS (unreached d es).length 1 (by omega) (by omega)) (.cons (.raw (l := .one) (cs := [A9]) hG4 rfl rfl) (.cons (.rd .d) .nil)) rfl ?_
                      refine AL_ev (Ev_assign) rfl ?_
                      refine AL_nil ?_
                      refine hK36 _ _ _ ?_
                      refine AC_seq fun K37 hK37 => ?_
                      refine AC_seq fun K38 hK38 => ?_
                      refine AC_region ?_
                      refine AL_ev (Ev_move) rfl ?_
                      refine AL_ev (Ev_lss rfl rfl) rfl ?_
                      refine AL_nil ?_
                      refine hK38 _ _ _ ?_
                      refine AC_cond rfl (fun hc11 => ?_) (fun hc11 => ?_)
                      · skip
                        have : (1 : Int) + ((unreached d es).length : Int) < 0 := by simpa using hc11
                        omega
                      · skip
                        refine AC_skip ?_
                        refine hK37 _ _ _ ?_
                        refine AC_seq fun K39 hK39 => ?_
                        refine AC_seq fun K40 hK40 => ?_
                        refine AC_region ?_
                        refine AL_ev (Ev_move) rfl ?_
                        refine AL_ev (Ev_move) rfl ?_
                        refine AL_ev (Ev_neq rfl rfl) rfl ?_
                        refine AL_nil ?_
                        refine hK40 _ _ _ ?_
                        refine AC_cond rfl (fun hc12 => ?_) (fun hc12 => ?_)
                        · skip
                          exact absurd hc12 (by simp)
                        · skip
                          refine AC_skip ?_
                          refine hK39 _ _ _ ?_
                          refine AC_seq fun K41 hK41 => ?_
                          refine AC_region ?_
                          refine AL_ev (Ev_assign) rfl ?_
                          refine AL_nil ?_
                          refine hK41 _ _ _ ?_
                          refine AC_ret ?_
                          exact ret_okX hX4 hdm (.tmp rfl rfl .nil) (.cons .d .nil) rfl

end Go.Proofs.YtleahipnknainaaDoor
