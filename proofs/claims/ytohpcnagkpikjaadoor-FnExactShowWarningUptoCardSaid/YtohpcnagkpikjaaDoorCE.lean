/- Contracts of functions. -/
import Derived.Test.YtohpcnagkpikjaaDoorMt
import Derived.Test.YtohpcnagkpikjaaDoorOk
import Derived.Test.YtohpcnagkpikjaaDoorWn
import Derived.Test.YtohpcnagkpikjaaDoorEng25
import Derived.Test.YtohpcnagkpikjaaDoorTy
import Derived.Test.YtohpcnagkpikjaaDoorCD
set_option linter.unusedVariables false
set_option linter.unusedSimpArgs false
namespace Go.Proofs.YtohpcnagkpikjaaDoor
open Go.Eng

set_option maxHeartbeats 1000000 in
set_option maxRecDepth 4000 in
theorem c_showWarning (w : Wn) (ha : w.a ≤ 9223372036854775807) (ht : w.t.size ≤ 1099511627776) : PCall Tryd.prog 8 [injW w] (· = [.c (.string (wshow w))]) := by
  obtain ⟨k, a, t⟩ := w
  simp only at ha ht
  have hdz := dec_size (max a 0) (by omega) (by omega)
  have hwz := wword_size k
  have h32 : (⟨#[32]⟩ : ByteArray).size = 1 := rfl
  have hz1 : (dec (max a 0)).size + (⟨#[32]⟩ : ByteArray).size ≤ 4611686018427387904 := by omega
  have hz2 : (dec (max a 0) ++ (⟨#[32]⟩ : ByteArray)).size + (wword k).size ≤ 4611686018427387904 := by rw [ByteArray.size_append]; omega
  have hz3 : (⟨#[32]⟩ : ByteArray).size + t.size ≤ 4611686018427387904 := by omega
  have hz4 : (dec (max a 0) ++ (⟨#[32]⟩ : ByteArray) ++ wword k).size + ((⟨#[32]⟩ : ByteArray) ++ t).size ≤ 4611686018427387904 := by
    rw [ByteArray.size_append, ByteArray.size_append, ByteArray.size_append]; omega
  have hz5 : (dec (max a 0) ++ (⟨#[32]⟩ : ByteArray) ++ wword k).size + (⟨#[32]⟩ : ByteArray).size ≤ 4611686018427387904 := by
    rw [ByteArray.size_append, ByteArray.size_append]; omega
  have hz6 : (dec (max a 0) ++ (⟨#[32]⟩ : ByteArray) ++ wword k ++ (⟨#[32]⟩ : ByteArray)).size + t.size ≤ 4611686018427387904 := by
    rw [ByteArray.size_append, ByteArray.size_append, ByteArray.size_append]; omega
  refine PCall_of (n := 30) Tryd.func8 rfl rfl (Nat.le_of_ble_eq_true rfl) fun C hdm hT0 => ?_
  have hT := hT0
  refine AC_seq fun K1 hK1 => ?_
  refine AC_region ?_
  refine AL_box (Lay.st [.one, .one, .one]) (nf rfl) rfl (by first | rfl | simp [Lay.len, Lay.lens]) _ rfl rfl ?_
  refine AL_ev (Ev_assign) rfl ?_
  refine AL_nil ?_
  refine hK1 _ _ _ ?_
  refine AC_seq fun K2 hK2 => ?_
  refine AC_region ?_
  refine AL_ev (Ev_assign) rfl ?_
  refine AL_nil ?_
  refine hK2 _ _ _ ?_
  refine AC_seqJ (fun f L => (True) ∧ f = frOf [(3, st (wword k)), (1, .d (.rp (Lay.st [.one, .one, .one]) (injW ⟨k, a, t⟩) []))] ∧ L = []) ?_ ?_
  · skip
    refine AC_seq fun K4 hK4 => ?_
    refine AC_region ?_
    first | refine AL_ev (Ev_fa_ptr rfl fa26_0 rfl rfl) rfl ?_ | refine AL_ev (Ev_fa_rp rfl fa26_0 rfl rfl) rfl ?_
    first | refine AL_ev (Ev_load_ptr rfl rfl rfl rfl rfl rfl ts3 ta3 rfl (fun _ => rfl)) rfl ?_ | refine AL_ev (Ev_load_rp rfl rfl rfl ts3 ta3 rfl (fun _ => rfl)) rfl ?_
    refine AL_fcall0 hT rfl cl16 (c_within k 1 4) rfl rfl ?_
    refine AL_nil ?_
    refine hK4 _ _ _ ?_
    refine AC_cond rfl (fun hc1 => ?_) (fun hc1 => ?_)
    · skip
      have hix : [D.c (.string ⟨#[115, 105, 110, 103, 108, 101]⟩), .c (.string ⟨#[97, 112, 97, 114, 116]⟩), .c (.string ⟨#[109, 105, 115, 115, 105, 110, 103]⟩), .c (.string ⟨#[116, 119, 105, 99, 101]⟩)][(k - 1).toNat]? = some (.c (.string (wword k))) := by rcases inB14 hc1 with rfl | rfl | rfl | rfl <;> rfl
      have hk14 := inB14 hc1
      refine AC_region ?_
      first | refine AL_bD .one rfl te40 ts9 tz9 rfl rfl (by decide) (by decide) (by first | rfl | simp [lenDs, goodVs, goodV, V.known, Lay.len, Lay.lens]) rfl ?_ | refine AL_bV .one rfl te40 ts9 tz9 rfl rfl (by decide) (by decide) (by first | rfl | simp [lenDs, goodVs, goodV, V.known, Lay.len, Lay.lens]) _ rfl rfl ?_
      first | refine AL_ev (Ev_fa_ptr rfl fa26_0 rfl rfl) rfl ?_ | refine AL_ev (Ev_fa_rp rfl fa26_0 rfl rfl) rfl ?_
      first | refine AL_ev (Ev_load_ptr rfl rfl rfl rfl rfl rfl ts3 ta3 rfl (fun _ => rfl)) rfl ?_ | refine AL_ev (Ev_load_rp rfl rfl rfl ts3 ta3 rfl (fun _ => rfl)) rfl ?_
      first | refine AL_ev (Ev_sub rfl rfl _ (wrap_id (by first | omega | (simp; omega)) (by first | omega | (simp; omega)))) rfl ?_ | refine AL_ev (Ev_sub rfl rfl _ rfl) rfl ?_
      first | refine AL_ev (Ev_ix_sl rfl rfl te40 ts9 (by omega) (by assumption)) rfl ?_ | refine AL_ev (Ev_ix_ref rfl rfl te40 ts9 (by omega) (by first | omega | (simp; omega))) rfl ?_
      first | refine AL_ev (Ev_load_ptr rfl rfl rfl rfl rfl rfl ts9 ta9 rfl (fun _ => rfl)) rfl ?_ | refine AL_ev (Ev_load_rp rfl rfl rfl ts9 ta9 rfl (fun _ => rfl)) rfl ?_
      refine AL_ev (Ev_assign) rfl ?_
      refine AL_nil ?_
      refine joinF [] rfl rfl ?_ BxTo_nil (SlTo_cons (by first | exact .rd .d | exact Vw_int (by first | rfl | assumption | omega | (simp; done) | (simp; omega) | (simp_all [inB14n]; done) | (simp_all [inB14n]; omega)) | exact Vw_c (by first | rfl | (simp; done) | (simp_all [inB14n]; done)) | exact .any) (SlTo_cons (by first | exact .rd (.ptr (srcFree rfl) rfl rfl rfl .d) | exact .rd .d) SlTo_nil))
      trivial
    · skip
      refine AC_skip ?_
      refine joinF [] rfl rfl ?_ BxTo_nil (SlTo_cons (by first | exact .rd .d | exact Vw_int (by first | rfl | assumption | omega | (simp; done) | (simp; omega) | (simp_all [inB14n]; done) | (simp_all [inB14n]; omega)) | exact Vw_c (by first | rfl | (simp; done) | (simp_all [inB14n]; done)) | exact .any) (SlTo_cons (by first | exact .rd (.ptr (srcFree rfl) rfl rfl rfl .d) | exact .rd .d) SlTo_nil))
      trivial
  · skip
    rintro f L ⟨hF, rfl, rfl⟩
    refine AC_seq fun K5 hK5 => ?_
    refine AC_region ?_
    first | refine AL_ev (Ev_fa_ptr rfl fa26_1 rfl rfl) rfl ?_ | refine AL_ev (Ev_fa_rp rfl fa26_1 rfl rfl) rfl ?_
    first | refine AL_ev (Ev_load_ptr rfl rfl rfl rfl rfl rfl ts3 ta3 rfl (fun _ => rfl)) rfl ?_ | refine AL_ev (Ev_load_rp rfl rfl rfl ts3 ta3 rfl (fun _ => rfl)) rfl ?_
    refine AL_ev (Ev_max rfl rfl) rfl ?_
    refine AL_fcall0 hT rfl cl17 (c_decimal (max a 0) (by omega) (by omega)) rfl rfl ?_
    refine AL_ev (Ev_sadd rfl rfl (by first | assumption | omega)) rfl ?_
    refine AL_ev (Ev_move) rfl ?_
    refine AL_ev (Ev_sadd rfl rfl (by first | assumption | omega)) rfl ?_
    refine AL_ev (Ev_assign) rfl ?_
    refine AL_nil ?_
    refine hK5 _ _ _ ?_
    refine AC_seq fun K6 hK6 => ?_
    refine AC_seq fun K7 hK7 => ?_
    refine AC_region ?_
    first | refine AL_ev (Ev_fa_ptr rfl fa26_2 rfl rfl) rfl ?_ | refine AL_ev (Ev_fa_rp rfl fa26_2 rfl rfl) rfl ?_
    first | refine AL_ev (Ev_load_ptr rfl rfl rfl rfl rfl rfl ts9 ta9 rfl (fun _ => rfl)) rfl ?_ | refine AL_ev (Ev_load_rp rfl rfl rfl ts9 ta9 rfl (fun _ => rfl)) rfl ?_
    refine AL_ev (Ev_sneq rfl rfl) rfl ?_
    refine AL_nil ?_
    refine hK7 _ _ _ ?_
    refine AC_cond rfl (fun hc2 => ?_) (fun hc2 => ?_)
    · skip
      refine AC_region ?_
      refine AL_ev (Ev_move) rfl ?_
      first | refine AL_ev (Ev_fa_ptr rfl fa26_2 rfl rfl) rfl ?_ | refine AL_ev (Ev_fa_rp rfl fa26_2 rfl rfl) rfl ?_
      first | refine AL_ev (Ev_load_ptr rfl rfl rfl rfl rfl rfl ts9 ta9 rfl (fun _ => rfl)) rfl ?_ | refine AL_ev (Ev_load_rp rfl rfl rfl ts9 ta9 rfl (fun _ => rfl)) rfl ?_
      refine AL_ev (Ev_sadd rfl rfl (by first | assumption | omega)) rfl ?_
      refine AL_ev (Ev_sadd rfl rfl (by first | assumption | omega)) rfl ?_
      refine AL_ev (Ev_assign) rfl ?_
      refine AL_nil ?_
      refine hK6 _ _ _ ?_
      refine AC_seq fun K8 hK8 => ?_
      refine AC_region ?_
      refine AL_ev (Ev_move) rfl ?_
      refine AL_ev (Ev_assign) rfl ?_
      refine AL_nil ?_
      refine hK8 _ _ _ ?_
      refine AC_ret ?_
      refine ret_ok hdm (.tmp rfl rfl .nil) (.cons .d .nil) ?_
      try simp_all [wshow, wsay, sp1]
    · skip
      refine AC_skip ?_
      refine hK6 _ _ _ ?_
      refine AC_seq fun K9 hK9 => ?_
      refine AC_region ?_
      refine AL_ev (Ev_move) rfl ?_
      refine AL_ev (Ev_assign) rfl ?_
      refine AL_nil ?_
      refine hK9 _ _ _ ?_
      refine AC_ret ?_
      refine ret_ok hdm (.tmp rfl rfl .nil) (.cons .d .nil) ?_
      try simp_all [wshow, wsay, sp1]

set_option maxHeartbeats 1000000 in
set_option maxRecDepth 4000 in
theorem c_specShowWarning (w : Wn) (ha : w.a ≤ 9223372036854775807) (ht : w.t.size ≤ 1099511627776) : PCall Tryd.prog 6 [injW w] (· = [.c (.string (wshow w))]) := by
  obtain ⟨k, a, t⟩ := w
  simp only at ha ht
  have hdz := dec_size (max a 0) (by omega) (by omega)
  have hwz := wword_size k
  have h32 : (⟨#[32]⟩ : ByteArray).size = 1 := rfl
  have hz1 : (dec (max a 0)).size + (⟨#[32]⟩ : ByteArray).size ≤ 4611686018427387904 := by omega
  have hz2 : (dec (max a 0) ++ (⟨#[32]⟩ : ByteArray)).size + (wword k).size ≤ 4611686018427387904 := by rw [ByteArray.size_append]; omega
  have hz3 : (⟨#[32]⟩ : ByteArray).size + t.size ≤ 4611686018427387904 := by omega
  have hz4 : (dec (max a 0) ++ (⟨#[32]⟩ : ByteArray) ++ wword k).size + ((⟨#[32]⟩ : ByteArray) ++ t).size ≤ 4611686018427387904 := by
    rw [ByteArray.size_append, ByteArray.size_append, ByteArray.size_append]; omega
  have hz5 : (dec (max a 0) ++ (⟨#[32]⟩ : ByteArray) ++ wword k).size + (⟨#[32]⟩ : ByteArray).size ≤ 4611686018427387904 := by
    rw [ByteArray.size_append, ByteArray.size_append]; omega
  have hz6 : (dec (max a 0) ++ (⟨#[32]⟩ : ByteArray) ++ wword k ++ (⟨#[32]⟩ : ByteArray)).size + t.size ≤ 4611686018427387904 := by
    rw [ByteArray.size_append, ByteArray.size_append, ByteArray.size_append]; omega
  have hix : [D.c (.string ⟨#[63]⟩), .c (.string ⟨#[115, 105, 110, 103, 108, 101]⟩), .c (.string ⟨#[97, 112, 97, 114, 116]⟩), .c (.string ⟨#[109, 105, 115, 115, 105, 110, 103]⟩), .c (.string ⟨#[116, 119, 105, 99, 101]⟩)][(if inB k 1 4 then k else 0).toNat]? = some (.c (.string (wword k))) := by
    cases hin : inB k 1 4 with
    | true => rcases inB14 hin with rfl | rfl | rfl | rfl <;> rfl
    | false => rw [inB14n hin]; rfl
  have hk04 : 0 ≤ (if inB k 1 4 then k else 0) := by
    split
    · rename_i h; have := inB14 h; omega
    · omega
  generalize hk4 : (if inB k 1 4 then k else 0) = k4 at hix hk04
  refine PCall_of (n := 30) Tryd.func6 rfl rfl (Nat.le_of_ble_eq_true rfl) fun C hdm hT0 => ?_
  have hT := hT0
  refine AC_seq fun K1 hK1 => ?_
  refine AC_region ?_
  refine AL_box (Lay.st [.one, .one, .one]) (nf rfl) rfl (by first | rfl | simp [Lay.len, Lay.lens]) _ rfl rfl ?_
  refine AL_ev (Ev_assign) rfl ?_
  refine AL_nil ?_
  refine hK1 _ _ _ ?_
  refine AC_seq fun K2 hK2 => ?_
  refine AC_region ?_
  first | refine AL_bD .one rfl te40 ts9 tz9 rfl rfl (by decide) (by decide) (by first | rfl | simp [lenDs, goodVs, goodV, V.known, Lay.len, Lay.lens]) rfl ?_ | refine AL_bV .one rfl te40 ts9 tz9 rfl rfl (by decide) (by decide) (by first | rfl | simp [lenDs, goodVs, goodV, V.known, Lay.len, Lay.lens]) _ rfl rfl ?_
  refine AL_ev (Ev_assign) rfl ?_
  refine AL_nil ?_
  refine hK2 _ _ _ ?_
  refine AC_seq fun K3 hK3 => ?_
  refine AC_region ?_
  refine AL_ev (Ev_assign) rfl ?_
  refine AL_nil ?_
  refine hK3 _ _ _ ?_
  refine AC_seqJ (fun f L => (True) ∧ f = frOf [(3, .d (.sl .one [.c (.string ⟨#[63]⟩), .c (.string ⟨#[115, 105, 110, 103, 108, 101]⟩), .c (.string ⟨#[97, 112, 97, 114, 116]⟩), .c (.string ⟨#[109, 105, 115, 115, 105, 110, 103]⟩), .c (.string ⟨#[116, 119, 105, 99, 101]⟩)])), (4, i64 k4), (1, .d (.rp (Lay.st [.one, .one, .one]) (injW ⟨k, a, t⟩) []))] ∧ L = []) ?_ ?_
  · skip
    refine AC_seq fun K5 hK5 => ?_
    refine AC_region ?_
    first | refine AL_ev (Ev_fa_ptr rfl fa26_0 rfl rfl) rfl ?_ | refine AL_ev (Ev_fa_rp rfl fa26_0 rfl rfl) rfl ?_
    first | refine AL_ev (Ev_load_ptr rfl rfl rfl rfl rfl rfl ts3 ta3 rfl (fun _ => rfl)) rfl ?_ | refine AL_ev (Ev_load_rp rfl rfl rfl ts3 ta3 rfl (fun _ => rfl)) rfl ?_
    refine AL_fcall0 hT rfl cl14 (c_l01In k 1 4) rfl rfl ?_
    refine AL_nil ?_
    refine hK5 _ _ _ ?_
    refine AC_cond rfl (fun hc1 => ?_) (fun hc1 => ?_)
    · skip
      refine AC_region ?_
      first | refine AL_ev (Ev_fa_ptr rfl fa26_0 rfl rfl) rfl ?_ | refine AL_ev (Ev_fa_rp rfl fa26_0 rfl rfl) rfl ?_
      first | refine AL_ev (Ev_load_ptr rfl rfl rfl rfl rfl rfl ts3 ta3 rfl (fun _ => rfl)) rfl ?_ | refine AL_ev (Ev_load_rp rfl rfl rfl ts3 ta3 rfl (fun _ => rfl)) rfl ?_
      refine AL_ev (Ev_assign) rfl ?_
      refine AL_nil ?_
      refine joinF [] rfl rfl ?_ BxTo_nil (SlTo_cons (by first | exact .rd .d | exact Vw_int (by first | rfl | assumption | omega | (simp; done) | (simp; omega) | (simp_all []; done) | (simp_all []; omega)) | exact Vw_c (by first | rfl | (simp; done) | (simp_all []; done)) | exact .any) (SlTo_cons (by first | exact .rd .d | exact Vw_int (by first | rfl | assumption | omega | (simp; done) | (simp; omega) | (simp_all []; done) | (simp_all []; omega)) | exact Vw_c (by first | rfl | (simp; done) | (simp_all []; done)) | exact .any) (SlTo_cons (by first | exact .rd (.ptr (srcFree rfl) rfl rfl rfl .d) | exact .rd .d) SlTo_nil)))
      trivial
    · skip
      refine AC_skip ?_
      refine joinF [] rfl rfl ?_ BxTo_nil (SlTo_cons (by first | exact .rd .d | exact Vw_int (by first | rfl | assumption | omega | (simp; done) | (simp; omega) | (simp_all []; done) | (simp_all []; omega)) | exact Vw_c (by first | rfl | (simp; done) | (simp_all []; done)) | exact .any) (SlTo_cons (by first | exact .rd .d | exact Vw_int (by first | rfl | assumption | omega | (simp; done) | (simp; omega) | (simp_all []; done) | (simp_all []; omega)) | exact Vw_c (by first | rfl | (simp; done) | (simp_all []; done)) | exact .any) (SlTo_cons (by first | exact .rd (.ptr (srcFree rfl) rfl rfl rfl .d) | exact .rd .d) SlTo_nil)))
      trivial
  · skip
    rintro f L ⟨hF, rfl, rfl⟩
    refine AC_seq fun K6 hK6 => ?_
    refine AC_draw hT follows [0, 1, 2, 3, 4, 5, 6, 7, 8, 9] (by kernel_rfl) ?_
    first | refine DT_ev rfl (EA_fa_ptr rfl fa26_1 rfl rfl) rfl ?_ | refine DT_ev rfl (EA_fa_rp rfl fa26_1 rfl rfl) rfl ?_
    first | refine DT_ev rfl (EA_load_ptr rfl rfl rfl rfl rfl rfl ts3 ta3 rfl (fun _ => rfl)) rfl ?_ | refine DT_ev rfl (EA_load_rp rfl rfl rfl ts3 ta3 rfl (fun _ => rfl)) rfl ?_
    refine DT_fcall0 rfl rfl cl15 (c_l24Num a (by omega)) rfl rfl ?_
    refine DT_ev rfl (EA_sadd rfl rfl (by first | assumption | omega)) rfl ?_
    refine DT_ev rfl (EA_move) rfl ?_
    refine DT_ev rfl (EA_move) rfl ?_
    first | refine DT_ev rfl (EA_ix_sl rfl rfl te40 ts9 (by omega) (by assumption)) rfl ?_ | refine DT_ev rfl (EA_ix_ref rfl rfl te40 ts9 (by omega) (by first | omega | (simp; omega))) rfl ?_
    first | refine DT_ev rfl (EA_load_ptr rfl rfl rfl rfl rfl rfl ts9 ta9 rfl (fun _ => rfl)) rfl ?_ | refine DT_ev rfl (EA_load_rp rfl rfl rfl ts9 ta9 rfl (fun _ => rfl)) rfl ?_
    refine DT_ev rfl (EA_sadd rfl rfl (by first | assumption | omega)) rfl ?_
    refine DT_ev rfl (EA_assign) rfl ?_
    refine DTi.nil ?_
    refine hK6 _ _ _ ?_
    refine AC_seq fun K7 hK7 => ?_
    refine AC_seq fun K8 hK8 => ?_
    refine AC_region ?_
    first | refine AL_ev (Ev_fa_ptr rfl fa26_2 rfl rfl) rfl ?_ | refine AL_ev (Ev_fa_rp rfl fa26_2 rfl rfl) rfl ?_
    first | refine AL_ev (Ev_load_ptr rfl rfl rfl rfl rfl rfl ts9 ta9 rfl (fun _ => rfl)) rfl ?_ | refine AL_ev (Ev_load_rp rfl rfl rfl ts9 ta9 rfl (fun _ => rfl)) rfl ?_
    refine AL_ev (Ev_sneq rfl rfl) rfl ?_
    refine AL_nil ?_
    refine hK8 _ _ _ ?_
    refine AC_cond rfl (fun hc2 => ?_) (fun hc2 => ?_)
    · skip
      refine AC_region ?_
      refine AL_ev (Ev_move) rfl ?_
      refine AL_ev (Ev_sadd rfl rfl (by first | assumption | omega)) rfl ?_
      first | refine AL_ev (Ev_fa_ptr rfl fa26_2 rfl rfl) rfl ?_ | refine AL_ev (Ev_fa_rp rfl fa26_2 rfl rfl) rfl ?_
      first | refine AL_ev (Ev_load_ptr rfl rfl rfl rfl rfl rfl ts9 ta9 rfl (fun _ => rfl)) rfl ?_ | refine AL_ev (Ev_load_rp rfl rfl rfl ts9 ta9 rfl (fun _ => rfl)) rfl ?_
      refine AL_ev (Ev_sadd rfl rfl (by first | assumption | omega)) rfl ?_
      refine AL_ev (Ev_assign) rfl ?_
      refine AL_nil ?_
      refine hK7 _ _ _ ?_
      refine AC_seq fun K9 hK9 => ?_
      refine AC_region ?_
      refine AL_ev (Ev_move) rfl ?_
      refine AL_ev (Ev_assign) rfl ?_
      refine AL_nil ?_
      refine hK9 _ _ _ ?_
      refine AC_ret ?_
      refine ret_ok hdm (.tmp rfl rfl .nil) (.cons .d .nil) ?_
      try simp_all [wshow, wsay, sp1, ByteArray.append_assoc]
    · skip
      refine AC_skip ?_
      refine hK7 _ _ _ ?_
      refine AC_seq fun K10 hK10 => ?_
      refine AC_region ?_
      refine AL_ev (Ev_move) rfl ?_
      refine AL_ev (Ev_assign) rfl ?_
      refine AL_nil ?_
      refine hK10 _ _ _ ?_
      refine AC_ret ?_
      refine ret_ok hdm (.tmp rfl rfl .nil) (.cons .d .nil) ?_
      try simp_all [wshow, wsay, sp1, ByteArray.append_assoc]

set_option maxHeartbeats 1000000 in
set_option maxRecDepth 4000 in
theorem c_szWarning (w : Wn) (l : Int) (hl0 : w.t.size ≤ l) (hl9 : l ≤ 1099511627776) : PCall Tryd.prog 5 [injW w, .c (.int .i64 l)] (· = [.c (.int .i64 (l - w.t.size))]) := by
  obtain ⟨k, a, t⟩ := w
  simp only at hl0
  refine PCall_of (n := 13) Tryd.func5 rfl rfl (Nat.le_of_ble_eq_true rfl) fun C hdm hT0 => ?_
  have hT := hT0
  refine AC_seq fun K1 hK1 => ?_
  refine AC_region ?_
  refine AL_box (Lay.st [.one, .one, .one]) (nf rfl) rfl (by first | rfl | simp [Lay.len, Lay.lens]) _ rfl rfl ?_
  refine AL_ev (Ev_assign) rfl ?_
  refine AL_nil ?_
  refine hK1 _ _ _ ?_
  refine AC_seq fun K2 hK2 => ?_
  refine AC_region ?_
  refine AL_ev (Ev_move) rfl ?_
  first | refine AL_ev (Ev_fa_ptr rfl fa23_2 rfl rfl) rfl ?_ | refine AL_ev (Ev_fa_rp rfl fa23_2 rfl rfl) rfl ?_
  first | refine AL_ev (Ev_load_ptr rfl rfl rfl rfl rfl rfl ts9 ta9 rfl (fun _ => rfl)) rfl ?_ | refine AL_ev (Ev_load_rp rfl rfl rfl ts9 ta9 rfl (fun _ => rfl)) rfl ?_
  refine AL_ev (Ev_len_str tstr9 rfl) rfl ?_
  first | refine AL_ev (Ev_sub rfl rfl _ (wrap_id (by first | omega | (simp; omega)) (by first | omega | (simp; omega)))) rfl ?_ | refine AL_ev (Ev_sub rfl rfl _ rfl) rfl ?_
  refine AL_ev (Ev_assign) rfl ?_
  refine AL_nil ?_
  refine hK2 _ _ _ ?_
  refine AC_seq fun K3 hK3 => ?_
  refine AC_seq fun K4 hK4 => ?_
  refine AC_region ?_
  refine AL_ev (Ev_move) rfl ?_
  refine AL_ev (Ev_lss rfl rfl) rfl ?_
  refine AL_nil ?_
  refine hK4 _ _ _ ?_
  refine AC_cond rfl (fun hc1 => ?_) (fun hc1 => ?_)
  · skip
    have : l - (t.size : Int) < 0 := by simpa using hc1
    omega
  · skip
    refine AC_skip ?_
    refine hK3 _ _ _ ?_
    refine AC_seq fun K5 hK5 => ?_
    refine AC_region ?_
    refine AL_ev (Ev_move) rfl ?_
    refine AL_ev (Ev_assign) rfl ?_
    refine AL_nil ?_
    refine hK5 _ _ _ ?_
    refine AC_ret ?_
    exact ret_ok hdm (.tmp rfl rfl .nil) (.cons .d .nil) rfl

set_option maxHeartbeats 1000000 in
set_option maxRecDepth 4000 in
theorem c_toWarning (w : Wn) : PCall Tryd.prog 7 [injW w] (· = [injW w]) := by
  obtain ⟨k, a, t⟩ := w
  refine PCall_of (n := 14) Tryd.func7 rfl rfl (Nat.le_of_ble_eq_true rfl) fun C hdm hT0 => ?_
  have hT := hT0
  refine AC_seq fun K1 hK1 => ?_
  refine AC_region ?_
  refine AL_box (Lay.st [.one, .one, .one]) (nf rfl) rfl (by first | rfl | simp [Lay.len, Lay.lens]) _ rfl rfl ?_
  refine AL_alloc zo26 _ rfl rfl ?_
  refine AL_nil ?_
  refine hK1 _ _ _ ?_
  refine AC_seq fun K2 hK2 => ?_
  refine AC_region ?_
  refine AL_alloc zo26 _ rfl rfl ?_
  refine AL_nil ?_
  refine hK2 _ _ _ ?_
  refine AC_seq fun K3 hK3 => ?_
  refine AC_region ?_
  first | refine AL_ev (Ev_fa_ptr rfl fa23_0 rfl rfl) rfl ?_ | refine AL_ev (Ev_fa_rp rfl fa23_0 rfl rfl) rfl ?_
  first | refine AL_ev (Ev_load_ptr rfl rfl rfl rfl rfl rfl ts3 ta3 rfl (fun _ => rfl)) rfl ?_ | refine AL_ev (Ev_load_rp rfl rfl rfl ts3 ta3 rfl (fun _ => rfl)) rfl ?_
  first | refine AL_ev (Ev_fa_ptr rfl fa26_0 rfl rfl) rfl ?_ | refine AL_ev (Ev_fa_rp rfl fa26_0 rfl rfl) rfl ?_
  first | refine AL_store rfl (nf rfl) rfl rfl rfl rfl rfl rfl (by first | rfl | simp [Lay.len, Lay.lens]) ts3 rfl rfl ?_ | refine AL_store rfl (nf rfl) rfl rfl rfl hes rfl rfl (by first | rfl | simp [Lay.len, Lay.lens]) ts3 rfl rfl ?_
  refine AL_nil ?_
  refine hK3 _ _ _ ?_
  refine AC_seq fun K4 hK4 => ?_
  refine AC_region ?_
  first | refine AL_ev (Ev_fa_ptr rfl fa23_1 rfl rfl) rfl ?_ | refine AL_ev (Ev_fa_rp rfl fa23_1 rfl rfl) rfl ?_
  first | refine AL_ev (Ev_load_ptr rfl rfl rfl rfl rfl rfl ts3 ta3 rfl (fun _ => rfl)) rfl ?_ | refine AL_ev (Ev_load_rp rfl rfl rfl ts3 ta3 rfl (fun _ => rfl)) rfl ?_
  first | refine AL_ev (Ev_fa_ptr rfl fa26_1 rfl rfl) rfl ?_ | refine AL_ev (Ev_fa_rp rfl fa26_1 rfl rfl) rfl ?_
  first | refine AL_store rfl (nf rfl) rfl rfl rfl rfl rfl rfl (by first | rfl | simp [Lay.len, Lay.lens]) ts3 rfl rfl ?_ | refine AL_store rfl (nf rfl) rfl rfl rfl hes rfl rfl (by first | rfl | simp [Lay.len, Lay.lens]) ts3 rfl rfl ?_
  refine AL_nil ?_
  refine hK4 _ _ _ ?_
  refine AC_seq fun K5 hK5 => ?_
  refine AC_region ?_
  first | refine AL_ev (Ev_fa_ptr rfl fa23_2 rfl rfl) rfl ?_ | refine AL_ev (Ev_fa_rp rfl fa23_2 rfl rfl) rfl ?_
  first | refine AL_ev (Ev_load_ptr rfl rfl rfl rfl rfl rfl ts9 ta9 rfl (fun _ => rfl)) rfl ?_ | refine AL_ev (Ev_load_rp rfl rfl rfl ts9 ta9 rfl (fun _ => rfl)) rfl ?_
  first | refine AL_ev (Ev_fa_ptr rfl fa26_2 rfl rfl) rfl ?_ | refine AL_ev (Ev_fa_rp rfl fa26_2 rfl rfl) rfl ?_
  first | refine AL_store rfl (nf rfl) rfl rfl rfl rfl rfl rfl (by first | rfl | simp [Lay.len, Lay.lens]) ts9 rfl rfl ?_ | refine AL_store rfl (nf rfl) rfl rfl rfl hes rfl rfl (by first | rfl | simp [Lay.len, Lay.lens]) ts9 rfl rfl ?_
  refine AL_nil ?_
  refine hK5 _ _ _ ?_
  refine AC_seq fun K6 hK6 => ?_
  refine AC_region ?_
  first | refine AL_ev (Ev_load_ptr rfl rfl rfl rfl rfl rfl ts26 ta26 (by first | rfl | simp) (by intro h; cases h)) rfl ?_ | refine AL_ev (Ev_load_rp rfl rfl rfl ts26 ta26 (by first | rfl | simp) (by intro h; cases h)) rfl ?_
  first | refine AL_store rfl (nf rfl) rfl rfl rfl rfl rfl rfl (by first | rfl | simp [Lay.len, Lay.lens]) ts26 rfl rfl ?_ | refine AL_store rfl (nf rfl) rfl rfl rfl hes rfl rfl (by first | rfl | simp [Lay.len, Lay.lens]) ts26 rfl rfl ?_
  refine AL_nil ?_
  refine hK6 _ _ _ ?_
  refine AC_ret ?_
  exact ret_ok hdm (.cell rfl rfl rfl rfl rfl rfl ts26 ta26 (by first | rfl | simp) (by intro h; cases h) .nil) (.cons (by first | exact .d | exact .agg (.cons .d (.cons .d (.cons .d .nil)))) .nil) rfl

set_option maxHeartbeats 1000000 in
set_option maxRecDepth 4000 in
theorem c_lawShowWarning (w : Wn) (ha : w.a ≤ 9223372036854775807) (hb : w.t.size ≤ 1048576) : PCall Tryd.prog 3 [injW w] (· = [.c (.bool true)]) := by
  refine PCall_of (n := 20) Tryd.func3 rfl rfl (Nat.le_of_ble_eq_true rfl) fun C hdm hT0 => ?_
  have hT := hT0
  refine AC_seq fun K1 hK1 => ?_
  refine AC_region ?_
  refine AL_box (Lay.st [.one, .one, .one]) (nf rfl) rfl (by first | rfl | simp [Lay.len, Lay.lens]) _ rfl rfl ?_
  refine AL_ev (Ev_assign) rfl ?_
  refine AL_nil ?_
  refine hK1 _ _ _ ?_
  refine AC_seq fun K2 hK2 => ?_
  refine AC_region ?_
  refine AL_ev (Ev_assign) rfl ?_
  refine AL_nil ?_
  refine hK2 _ _ _ ?_
  refine AC_seq fun K3 hK3 => ?_
  refine AC_region ?_
  first | refine AL_ev (Ev_load_ptr rfl rfl rfl rfl rfl rfl ts23 ta23 (by first | rfl | simp) (by intro h; cases h)) rfl ?_ | refine AL_ev (Ev_load_rp rfl rfl rfl ts23 ta23 (by first | rfl | simp) (by intro h; cases h)) rfl ?_
  refine AL_ev (Ev_move) rfl ?_
  refine AL_fcall0 hT rfl cl5 (c_szWarning w 1048576 (by omega) (by omega)) rfl rfl ?_
  refine AL_ev (Ev_assign) rfl ?_
  refine AL_nil ?_
  refine hK3 _ _ _ ?_
  refine AC_seq fun K4 hK4 => ?_
  refine AC_seq fun K5 hK5 => ?_
  refine AC_region ?_
  refine AL_ev (Ev_move) rfl ?_
  refine AL_ev (Ev_lss rfl rfl) rfl ?_
  refine AL_nil ?_
  refine hK5 _ _ _ ?_
  refine AC_cond rfl (fun hc1 => ?_) (fun hc1 => ?_)
  · skip
    have : (1048576 : Int) - w.t.size < 0 := by simpa using hc1
    omega
  · skip
    refine AC_skip ?_
    refine hK4 _ _ _ ?_
    refine AC_seq fun K6 hK6 => ?_
    refine AC_region ?_
    first | refine AL_ev (Ev_load_ptr rfl rfl rfl rfl rfl rfl ts23 ta23 (by first | rfl | simp) (by intro h; cases h)) rfl ?_ | refine AL_ev (Ev_load_rp rfl rfl rfl ts23 ta23 (by first | rfl | simp) (by intro h; cases h)) rfl ?_
    refine AL_fcall0 hT rfl cl7 (c_toWarning w) rfl rfl ?_
    refine AL_fcall0 hT rfl cl6 (c_specShowWarning w ha (by omega)) rfl rfl ?_
    refine AL_ev (Ev_assign) rfl ?_
    refine AL_nil ?_
    refine hK6 _ _ _ ?_
    refine AC_seq fun K7 hK7 => ?_
    refine AC_region ?_
    first | refine AL_ev (Ev_load_ptr rfl rfl rfl rfl rfl rfl ts23 ta23 (by first | rfl | simp) (by intro h; cases h)) rfl ?_ | refine AL_ev (Ev_load_rp rfl rfl rfl ts23 ta23 (by first | rfl | simp) (by intro h; cases h)) rfl ?_
    refine AL_fcall0 hT rfl cl7 (c_toWarning w) rfl rfl ?_
    refine AL_fcall0 hT rfl cl8 (c_showWarning w ha (by omega)) rfl rfl ?_
    refine AL_ev (Ev_assign) rfl ?_
    refine AL_nil ?_
    refine hK7 _ _ _ ?_
    refine AC_seq fun K8 hK8 => ?_
    refine AC_seq fun K9 hK9 => ?_
    refine AC_region ?_
    refine AL_ev (Ev_move) rfl ?_
    refine AL_ev (Ev_move) rfl ?_
    refine AL_ev (Ev_sneq rfl rfl) rfl ?_
    refine AL_nil ?_
    refine hK9 _ _ _ ?_
    refine AC_cond rfl (fun hc2 => ?_) (fun hc2 => ?_)
    · skip
      exact absurd hc2 (by simp)
    · skip
      refine AC_skip ?_
      refine hK8 _ _ _ ?_
      refine AC_seq fun K10 hK10 => ?_
      refine AC_region ?_
      refine AL_ev (Ev_assign) rfl ?_
      refine AL_nil ?_
      refine hK10 _ _ _ ?_
      refine AC_ret ?_
      exact ret_ok hdm (.tmp rfl rfl .nil) (.cons .d .nil) rfl

end Go.Proofs.YtohpcnagkpikjaaDoor
