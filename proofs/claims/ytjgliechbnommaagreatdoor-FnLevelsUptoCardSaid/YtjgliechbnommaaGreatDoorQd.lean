/- The engine and the contracts of the functions that the claim reaches (texts packed, part 4). -/
import Derived.Test.YtjgliechbnommaaGreatDoorQc
set_option linter.unusedVariables false
set_option linter.unusedSimpArgs false
namespace Go.Proofs.YtjgliechbnommaaGreatDoor
open Go.Eng
theorem tz54 : tyZero Tryz.prog 54 = some (some (.agg #[.int .i64 0, .string ⟨#[]⟩, .int .i64 0, .slice none 0 0, .int .i64 0, .string ⟨#[]⟩, .int .i64 0, .slice none 0 0, .string ⟨#[]⟩])) := by kernel_rfl
theorem tz9 : tyZero Tryz.prog 9 = some (some (.string ⟨#[]⟩)) := by kernel_rfl
theorem cl34 : Callable Tryz.prog 34 := Zq Tryz.func34
theorem cl41 : Callable Tryz.prog 41 := Zq Tryz.func41
theorem cl43 : Callable Tryz.prog 43 := Zq Tryz.func43
theorem cl44 : Callable Tryz.prog 44 := Zq Tryz.func44
theorem cl50 : Callable Tryz.prog 50 := Zq Tryz.func50
theorem cl52 : Callable Tryz.prog 52 := Zq Tryz.func52
theorem cl55 : Callable Tryz.prog 55 := Zq Tryz.func55
theorem cl72 : Callable Tryz.prog 72 := Zq Tryz.func72
theorem fa27_0 : tyField Tryz.prog 27 0 = some (0, true) := by kernel_rfl
theorem fa54_0 : tyField Tryz.prog 54 0 = some (0, true) := by kernel_rfl
theorem ta24 : tyAgg Tryz.prog 24 = some false := by kernel_rfl
theorem ta54 : tyAgg Tryz.prog 54 = some true := by kernel_rfl
theorem tb9 : tyBytes Tryz.prog 9 = some 16 := by kernel_rfl
theorem te24 : tyElem Tryz.prog 24 = some 54 := by kernel_rfl
theorem te25 : tyElem Tryz.prog 25 = some 9 := by kernel_rfl
theorem ts24 : tySize Tryz.prog 24 = some 1 := by kernel_rfl
theorem ts54 : tySize Tryz.prog 54 = some 9 := by kernel_rfl
theorem zo54 : ZeroOf Tryz.prog 54 (Lay.st [(Lay.st [.one, .one, .one, .one]), (Lay.st [.one, .one, .one, .one]), .one]) (.d (.agg [(Lay.st [.one, .one, .one, .one]), (Lay.st [.one, .one, .one, .one]), .one] [.agg [.one, .one, .one, .one] [.c (.int .i64 0), .c (.string ⟨#[]⟩), .c (.int .i64 0), .c (.slice none 0 0)], .agg [.one, .one, .one, .one] [.c (.int .i64 0), .c (.string ⟨#[]⟩), .c (.int .i64 0), .c (.slice none 0 0)], .c (.string ⟨#[]⟩)])) := ⟨_, tz54, rfl, fun _ _ _ => VC_cells rfl⟩
set_option maxHeartbeats 1000000 in
set_option maxRecDepth 4000 in
theorem c_indexS (xs : List ByteArray) (s : ByteArray) : PCall Tryz.prog 43 [.sl .one (strs xs), .c (.string s)] (· = [.c (.int .i64 (idxS xs s 0))]) := by
 refine PCall_of (n := 19) Tryz.func43 rfl rfl (Nat.le_of_ble_eq_true rfl) fun C hdm hT0 => ?_
 have hT := hT0
 refine Zs fun _ hK1 => ?_
 refine Za ?_
 refine Zn hK1 ?_
 refine AC_seq fun _ hK2 => ?_
 refine Zs fun _ hK3 => ?_
 refine Zm ?_
 refine AL_lim (x := (Operand.tmp 6)) rfl fun hl1 => ?_
 try simp only [injs_length, ints_length, strs_length, injCs_length, u8s_length, List.length_map] at hl1
 refine Ze (Ev_len_strs te25 rfl) ?_
 refine Zm ?_
 refine Zn hK3 ?_
 refine AC_block ?_
 refine AC_loopS [0, 1, 7] (Nat) (fun j => [(8, i64 j)]) (fun j => []) (fun st => xs.length - st) (fun j => j ≤ xs.length ∧ idxS xs s 0 = idxS (xs.drop j) s j) (0) ?_ ?_ ?_
 ·exact enterS [] rfl rfl BxTo_nil Sl_
 ·exact ⟨Nat.zero_le _, by simp⟩
 rintro j ⟨hj, hI⟩
 show AC _ _ _ _ _ (FS [0, 1, 7] _ [(8, i64 j)]) []
 refine Zs fun _ hK4 => ?_
 refine Ze (Ev_lss rfl rfl) ?_
 refine Zn hK4 ?_
 refine AC_seq fun _ hK5 => ?_
 refine Zc (fun hc1 => ?_) fun hc1 => ?_
 ·have hlt : j < xs.length := by simpa using hc1
  obtain ⟨u, hu⟩ : ∃ x, xs[j]? = some x := ⟨_, List.getElem?_eq_getElem hlt⟩
  have hu2 := strs_get hu
  have hdr := drop_get hu
  refine Zk hK5 ?_
  refine AC_seq fun _ hK6 => ?_
  refine AC_block ?_
  refine Zs fun _ hK7 => ?_
  refine Zm ?_
  refine Za ?_
  refine Zn hK7 ?_
  refine Zs fun _ hK8 => ?_
  iterate 3 refine Zm ?_
  refine Yi te25 ts9 ?_
  refine Yp ts9 ta9 ?_
  refine Ze (Ev_seql rfl rfl) ?_
  refine Zn hK8 ?_
  refine Zc (fun hc2 => ?_) fun hc2 => ?_
  ·refine Zs fun _ hK9 => ?_
   refine Zm ?_
   refine Za ?_
   refine Zn hK9 ?_
   refine AC_ret ?_
   refine Zr hdm ?_
   try rw [hI]
   try rw [hdr]
   try simp_all [List.length_pos_iff, idxS, eq_comm]
  ·refine Zk hK6 ?_
   refine AC_region ?_
   refine Ze (Ev_add rfl rfl _ (wrap_id (by omega) (by omega))) ?_
   refine Zm ?_
   refine AL_nil ?_
   refine closeS (j + 1) [] rfl rfl (by show xs.length - (j + 1) < xs.length - j; omega) ⟨hlt, ?_⟩ BxTo_nil Sl_
   rw [hI]
   try rw [hdr]
   try simp_all [idxS, eq_comm]
 ·have hj2 : j = xs.length := by
   have : ¬ j < xs.length := by simpa using hc1
   omega
  subst hj2
  rw [List.drop_length] at hI
  refine Zx hK2 ?_
  refine Zs fun _ hK10 => ?_
  refine Za ?_
  refine Zn hK10 ?_
  refine AC_ret ?_
  refine Zr hdm ?_
  try rw [hI]
  try simp_all [List.length_pos_iff, idxS, eq_comm]
set_option maxHeartbeats 1000000 in
set_option maxRecDepth 4000 in
theorem c_containsS (xs : List ByteArray) (s : ByteArray) : PCall Tryz.prog 55 [.sl .one (strs xs), .c (.string s)] (· = [.c (.bool (hasS xs s))]) := by
 refine PCall_of (n := 9) Tryz.func55 rfl rfl (Nat.le_of_ble_eq_true rfl) fun C hdm hT0 => ?_
 have hT := hT0
 refine Zs fun _ hK1 => ?_
 refine Za ?_
 refine Zn hK1 ?_
 refine Zs fun _ hK2 => ?_
 iterate 2 refine Zm ?_
 refine AL_fcall0 hT rfl cl43 (c_indexS xs s) rfl rfl ?_
 refine Ze (Ev_geq rfl rfl) ?_
 refine Za ?_
 refine Zn hK2 ?_
 refine AC_ret ?_
 refine Zr hdm ?_
 rw [idxS_has]
set_option maxHeartbeats 1000000 in
set_option maxRecDepth 4000 in
theorem c_l23Has (xs : List ByteArray) (s : ByteArray) : PCall Tryz.prog 50 [.sl .one (strs xs), .c (.string s)] (· = [.c (.bool (hasS xs s))]) := by
 refine PCall_of (n := 18) Tryz.func50 rfl rfl (Nat.le_of_ble_eq_true rfl) fun C hdm hT0 => ?_
 have hT := hT0
 refine Zs fun _ hK1 => ?_
 refine Za ?_
 refine Zn hK1 ?_
 refine AC_seq fun _ hK2 => ?_
 refine Zs fun _ hK3 => ?_
 refine Za ?_
 refine Zn hK3 ?_
 refine AC_block ?_
 refine AC_loopS [0, 1] (Nat) (fun j => [(5, i64 j)]) (fun j => []) (fun st => xs.length - st) (fun j => j ≤ xs.length ∧ hasS xs s = hasS (xs.drop j) s) (0) ?_ ?_ ?_
 ·exact enterS [] rfl rfl BxTo_nil Sl_
 ·exact ⟨Nat.zero_le _, by simp⟩
 rintro j ⟨hj, hI⟩
 show AC _ _ _ _ _ (FS [0, 1] _ [(5, i64 j)]) []
 refine AC_seq fun _ hK4 => ?_
 refine Zs fun _ hK5 => ?_
 iterate 2 refine Zm ?_
 refine AL_lim (x := (Operand.tmp 7)) rfl fun hl1 => ?_
 try simp only [injs_length, ints_length, strs_length, injCs_length, u8s_length, List.length_map] at hl1
 refine Ze (Ev_len_strs te25 rfl) ?_
 refine Ze (Ev_lss rfl rfl) ?_
 refine Zn hK5 ?_
 refine Zc (fun hc1 => ?_) fun hc1 => ?_
 ·have hlt : j < xs.length := by simpa using hc1
  obtain ⟨u, hu⟩ : ∃ x, xs[j]? = some x := ⟨_, List.getElem?_eq_getElem hlt⟩
  have hu2 := strs_get hu
  have hdr := drop_get hu
  refine Zk hK4 ?_
  refine AC_seq fun _ hK6 => ?_
  refine AC_block ?_
  refine Zs fun _ hK7 => ?_
  iterate 2 refine Zm ?_
  refine Yi te25 ts9 ?_
  refine Yp ts9 ta9 ?_
  refine Zm ?_
  refine Ze (Ev_seql rfl rfl) ?_
  refine Zn hK7 ?_
  refine Zc (fun hc2 => ?_) fun hc2 => ?_
  ·refine Zs fun _ hK8 => ?_
   refine Za ?_
   refine Zn hK8 ?_
   refine AC_ret ?_
   refine Zr hdm ?_
   try rw [hI]
   try rw [hdr]
   try simp_all [List.length_pos_iff, hasS]
  ·refine Zk hK6 ?_
   refine AC_region ?_
   refine Zm ?_
   refine Ze (Ev_add rfl rfl _ (wrap_id (by omega) (by omega))) ?_
   refine Za ?_
   refine AL_nil ?_
   refine closeS (j + 1) [] rfl rfl (by show xs.length - (j + 1) < xs.length - j; omega) ⟨hlt, ?_⟩ BxTo_nil Sl_
   rw [hI]
   try rw [hdr]
   try simp_all [hasS]
 ·have hj2 : j = xs.length := by
   have : ¬ j < xs.length := by simpa using hc1
   omega
  subst hj2
  rw [List.drop_length] at hI
  refine Zx hK2 ?_
  refine Zs fun _ hK9 => ?_
  refine Za ?_
  refine Zn hK9 ?_
  refine AC_ret ?_
  refine Zr hdm ?_
  try rw [hI]
  try simp_all [List.length_pos_iff, hasS]
set_option maxHeartbeats 1000000 in
set_option maxRecDepth 4000 in
theorem c_l23Add (xs : List ByteArray) (s : ByteArray) (hl : xs.length + 1 ≤ 1099511627776) : PCall Tryz.prog 41 [.sl .one (strs xs), .c (.string s)] (· = [.sl .one (strs (onceL xs s))]) := by
 refine PCall_of (n := 15) Tryz.func41 rfl rfl (Nat.le_of_ble_eq_true rfl) fun C hdm hT0 => ?_
 have hT := hT0
 refine Zs fun _ hK1 => ?_
 refine Za ?_
 refine Zn hK1 ?_
 refine AC_seq fun _ hK2 => ?_
 refine Zs fun _ hK3 => ?_
 iterate 2 refine Zm ?_
 refine AL_fcall0 hT rfl cl50 (c_l23Has xs s) rfl rfl ?_
 refine Zn hK3 ?_
 refine Zc (fun hc1 => ?_) fun hc1 => ?_
 ·refine Zs fun _ hK4 => ?_
  refine Zm ?_
  refine Za ?_
  refine Zn hK4 ?_
  refine AC_ret ?_
  exact Zr hdm (by rw [onceL, if_pos hc1])
 ·refine Zk hK2 ?_
  refine Zs fun _ hK5 => ?_
  refine AL_bV .one rfl te25 ts9 tz9 rfl rfl (by decide) (by decide) (by rfl) _ rfl rfl ?_
  refine Zm ?_
  refine AL_append rfl rfl rfl te25 ts9 tz9 rfl tb9 (by decide) (by decide) rfl (by rfl) (Src_sl rfl) (by simp only [lim]; (simp; omega)) _ rfl rfl ?_
  refine Zm ?_
  refine AL_bD .one rfl te25 ts9 tz9 rfl rfl (by decide) (by decide) (by rfl) rfl ?_
  refine AL_append rfl rfl rfl te25 ts9 tz9 rfl tb9 (by decide) (by decide) rfl (by (simp; done)) (Src_sl rfl) (by simp only [lim]; (simp; omega)) _ rfl rfl ?_
  refine Za ?_
  refine Zn hK5 ?_
  refine AC_ret ?_
  refine ret_ok hdm (.tmp rfl rfl .nil) (.cons (.ref trivial rfl rfl (by simp) (ReadsL_eq (xs := strs xs ++ [.c (.string s)]) (by simp))) .nil) (by simp [onceL, hc1, strs])
set_option maxHeartbeats 1000000 in
set_option maxRecDepth 4000 in
theorem c_once (xs : List ByteArray) (s : ByteArray) (hl : xs.length + 1 ≤ 1099511627776) : BCall Tryz.prog 52 [] 9 .one (strs xs) [.c (.string s)] (strs (onceL xs s)) := by
 refine BCall_of (n := 13) Tryz.func52 rfl rfl (Nat.le_of_ble_eq_true rfl) fun C o hdm hT => ?_
 refine Zs fun _ hK1 => ?_
 refine Za ?_
 refine Zn hK1 ?_
 refine AC_seq fun _ hK2 => ?_
 refine Zs fun _ hK3 => ?_
 iterate 2 refine Zm ?_
 refine AL_qcall hT rfl cl55 (c_containsS xs s) (.cons (.rd (.ref trivial rfl rfl (by simp) (ReadsL_d _))) (.cons (.rd .d) .nil)) rfl ?_
 refine Zn hK3 ?_
 refine Zc (fun hc1 => ?_) fun hc1 => ?_
 ·refine Zs fun _ hK4 => ?_
  refine Zm ?_
  refine Za ?_
  refine Zn hK4 ?_
  refine AC_ret ?_
  refine retb_ok hdm (.tmp rfl rfl .nil) rfl (by rw [onceL, if_pos hc1]) (by rw [onceL, if_pos hc1])
 ·refine Zk hK2 ?_
  refine Zs fun _ hK5 => ?_
  iterate 2 refine Zm ?_
  refine AL_bD .one rfl te25 ts9 tz9 rfl rfl (by decide) (by decide) (by rfl) rfl ?_
  refine AL_append rfl rfl rfl te25 ts9 tz9 rfl tb9 (by decide) (by decide) rfl (by (simp; done)) (Src_sl rfl) (by simp only [lim]; (simp; omega)) _ rfl rfl ?_
  refine Za ?_
  refine Zn hK5 ?_
  refine AC_ret ?_
  refine retb_ok hdm (.tmp rfl rfl .nil) rfl (by simp [onceL, hc1, strs]) (by simp [onceL, hc1])
set_option maxHeartbeats 1000000 in
set_option maxRecDepth 4000 in
theorem c_specPredOf (t : T) (hb : bulk t ≤ 1099511627776) : PCall Tryz.prog 34 [inj t] (· = [.c (.string (predS t))]) := by
 obtain ⟨k, s, m, ks⟩ := t
 obtain ⟨hs, hkl, hku⟩ := bulk_mk hb
 have hsz : s.size + (⟨#[47]⟩ : ByteArray).size ≤ 4611686018427387904 := by
  have : (⟨#[47]⟩ : ByteArray).size = 1 := rfl
  omega
 have hdz := dec_size (ks.length : Int) (by omega) (by omega)
 have hsz2 : (s ++ (⟨#[47]⟩ : ByteArray)).size + (dec ks.length).size ≤ 4611686018427387904 := by
  have : (⟨#[47]⟩ : ByteArray).size = 1 := rfl
  rw [ByteArray.size_append]
  omega
 refine PCall_of (n := 19) Tryz.func34 rfl rfl (Nat.le_of_ble_eq_true rfl) fun C hdm hT0 => ?_
 have hT := hT0
 refine Zs fun _ hK1 => ?_
 refine AL_box (Lay.st [.one, .one, .one, .one]) (nf rfl) rfl (by rfl) _ rfl rfl ?_
 refine Za ?_
 refine Zn hK1 ?_
 refine AC_seq fun _ hK2 => ?_
 refine Zs fun _ hK3 => ?_
 refine Ya fa41_0 ?_
 refine Yl ts3 ta3 ?_
 refine Ze (Ev_neq rfl rfl) ?_
 refine Zm ?_
 refine Zb 6 (fun hg1 => ?_) fun hg1 => ?_
 ·refine Zt ?_
  refine Ya fa41_0 ?_
  refine Zt ?_
  refine Yl ts3 ta3 ?_
  refine Zt ?_
  refine Ze (Ev_neq rfl rfl) ?_
  refine Zp ?_
  refine Zn hK3 ?_
  refine Zc (fun hc2 => ?_) fun hc2 => ?_
  ·refine Zs fun _ hK4 => ?_
   refine Za ?_
   refine Zn hK4 ?_
   refine AC_ret ?_
   refine Zr hdm ?_
   try rw [predS]
   try simp_all [List.length_pos_iff, T.kind, T.name, T.kids, slash]
  ·refine Zk hK2 ?_
   refine AC_seq fun _ hK5 => ?_
   refine AC_draw hT follows [0, 1, 2, 3, 4, 5, 6, 7, 8] (by kernel_rfl) ?_
   refine DT_ev rfl (EA_fa_ptr rfl fa41_1 rfl rfl) rfl ?_
   refine DT_ev rfl (EA_load_ptr rfl rfl rfl rfl rfl rfl ts9 ta9 rfl (fun _ => rfl)) rfl ?_
   refine DT_ev rfl (EA_sadd rfl rfl (by assumption)) rfl ?_
   refine DT_ev rfl (EA_fa_ptr rfl fa41_3 rfl rfl) rfl ?_
   refine DT_ev rfl (EA_load_ptr rfl rfl rfl rfl rfl rfl ts39 ta39 rfl (fun _ => rfl)) rfl ?_
   refine DT_ev rfl (EA_len_injs te39 rfl) rfl ?_
   refine DT_fcall0 rfl rfl cl72 (c_specDecimal ks.length (by omega) (by omega)) rfl rfl ?_
   refine DT_ev rfl (EA_sadd rfl rfl (by assumption)) rfl ?_
   refine DT_ev rfl (EA_assign) rfl ?_
   refine Zd hK5 ?_
   refine AC_ret ?_
   refine Zr hdm ?_
   try rw [predS]
   try simp_all [List.length_pos_iff, T.kind, T.name, T.kids, slash]
 ·iterate 3 refine Zg ?_
  refine Zp ?_
  refine Zn hK3 ?_
  refine AC_cond_f rfl ?_
  refine Zk hK2 ?_
  refine AC_seq fun _ hK6 => ?_
  refine AC_draw hT follows [0, 1, 2, 3, 4, 5, 6, 7, 8] (by kernel_rfl) ?_
  refine DT_ev rfl (EA_fa_ptr rfl fa41_1 rfl rfl) rfl ?_
  refine DT_ev rfl (EA_load_ptr rfl rfl rfl rfl rfl rfl ts9 ta9 rfl (fun _ => rfl)) rfl ?_
  refine DT_ev rfl (EA_sadd rfl rfl (by assumption)) rfl ?_
  refine DT_ev rfl (EA_fa_ptr rfl fa41_3 rfl rfl) rfl ?_
  refine DT_ev rfl (EA_load_ptr rfl rfl rfl rfl rfl rfl ts39 ta39 rfl (fun _ => rfl)) rfl ?_
  refine DT_ev rfl (EA_len_injs te39 rfl) rfl ?_
  refine DT_fcall0 rfl rfl cl72 (c_specDecimal ks.length (by omega) (by omega)) rfl rfl ?_
  refine DT_ev rfl (EA_sadd rfl rfl (by assumption)) rfl ?_
  refine DT_ev rfl (EA_assign) rfl ?_
  refine Zd hK6 ?_
  refine AC_ret ?_
  refine Zr hdm ?_
  try rw [predS]
  try simp_all [List.length_pos_iff, T.kind, T.name, T.kids, slash]
set_option maxHeartbeats 1000000 in
set_option maxRecDepth 4000 in
theorem c_specPredsOf (d : Dbt) (hb : bulkD d ≤ 1048576) : PCall Tryz.prog 9 [injD d] (· = [.sl .one (strs (predsF d.cs []))]) := by
 obtain ⟨cs, op⟩ := d
 obtain ⟨hnc, hbc, hno, hbo⟩ := bulkD_bd hb
 refine PCall_of (n := 23) Tryz.func9 rfl rfl (Nat.le_of_ble_eq_true rfl) fun C hdm hT0 => ?_
 have hT := hT0
 refine Zs fun _ hK1 => ?_
 refine AL_box (Lay.st [.one, .one]) (nf rfl) rfl (by rfl) _ rfl rfl ?_
 refine Za ?_
 refine Zn hK1 ?_
 refine Zs fun _ hK2 => ?_
 refine AL_bD .one rfl te25 ts9 tz9 rfl rfl (by decide) (by decide) (by rfl) rfl ?_
 refine Za ?_
 refine Zn hK2 ?_
 refine AC_seq fun _ hK3 => ?_
 refine Zs fun _ hK4 => ?_
 refine Za ?_
 refine Zn hK4 ?_
 refine AC_block ?_
 refine AC_loopS [] (Nat × List ByteArray) (fun ⟨j, out⟩ => [(4, i64 j), (3, .d (.sl .one (strs out))), (1, .d (.rp (Lay.st [.one, .one]) (injD ⟨cs, op⟩) []))]) (fun ⟨j, out⟩ => []) (fun st => cs.length - st.1) (fun ⟨j, out⟩ => j ≤ cs.length ∧ (predsF cs [] = predsF (cs.drop j) out ∧ out.length ≤ j)) ((0, [])) ?_ ?_ ?_
 ·exact enterS [] rfl rfl BxTo_nil Sl_
 ·exact ⟨Nat.zero_le _, by simp, by simp⟩
 rintro ⟨j, out⟩ ⟨hj, ⟨hI, ho⟩⟩
 show AC _ _ _ _ _ (FS [] _ [(4, i64 j), (3, .d (.sl .one (strs out))), (1, .d (.rp (Lay.st [.one, .one]) (injD ⟨cs, op⟩) []))]) []
 refine AC_seq fun _ hK5 => ?_
 refine Zs fun _ hK6 => ?_
 refine Zm ?_
 refine Yr fa27_0 ?_
 refine Yp ts24 ta24 ?_
 refine AL_lim (x := (Operand.tmp 8)) rfl fun hl1 => ?_
 try simp only [injs_length, ints_length, strs_length, injCs_length, u8s_length, List.length_map] at hl1
 refine Ze (Ev_len_injCs te24 rfl) ?_
 refine Ze (Ev_lss rfl rfl) ?_
 refine Zn hK6 ?_
 refine Zc (fun hc1 => ?_) fun hc1 => ?_
 ·have hlt : j < cs.length := by simpa using hc1
  obtain ⟨u, hu⟩ : ∃ x, cs[j]? = some x := ⟨_, List.getElem?_eq_getElem hlt⟩
  have hu2 := injCs_get hu
  have hdr := drop_get hu
  obtain ⟨hbu, _, _⟩ := bulkCs_bd (List.mem_of_getElem? hu) hbc
  rw [hdr, predsF] at hI
  have hol := onceL_len out (predS u.h)
  refine Zk hK5 ?_
  refine AC_seq fun _ hK7 => ?_
  refine AC_block ?_
  refine AC_region ?_
  refine Zm ?_
  refine Yr fa27_0 ?_
  refine Yp ts24 ta24 ?_
  refine Zm ?_
  refine Yi te24 ts54 ?_
  refine Yr fa54_0 ?_
  refine YP ts41 ta41 ?_
  refine AL_fcall0 hT rfl cl34 (c_specPredOf u.h (by omega)) rfl rfl ?_
  refine AL_fcall0 hT rfl cl41 (c_l23Add out (predS u.h) (by omega)) rfl rfl ?_
  refine Za ?_
  refine Zn hK7 ?_
  refine AC_region ?_
  refine Zm ?_
  refine Ze (Ev_add rfl rfl _ (wrap_id (by omega) (by omega))) ?_
  refine Za ?_
  refine AL_nil ?_
  refine closeS (j + 1, onceL out (predS u.h)) [] rfl rfl (by show cs.length - (j + 1) < cs.length - j; omega) ⟨hlt, ?_⟩ BxTo_nil Sl_
  exact ⟨hI, by omega⟩
 ·have hj2 : j = cs.length := by
   have : ¬ j < cs.length := by simpa using hc1
   omega
  subst hj2
  rw [List.drop_length] at hI
  refine Zx hK3 ?_
  refine Zs fun _ hK8 => ?_
  refine Zm ?_
  refine Za ?_
  refine Zn hK8 ?_
  refine AC_ret ?_
  refine Zr hdm ?_
  rw [predsF] at hI
  rw [hI]
end Go.Proofs.YtjgliechbnommaaGreatDoor
set_option linter.unusedVariables false
set_option linter.unusedSimpArgs false
namespace Go.Proofs.YtjgliechbnommaaGreatDoor
open Go.Eng
theorem cl45 : Callable Tryz.prog 45 := Zq Tryz.func45
theorem cl64 : Callable Tryz.prog 64 := Zq Tryz.func64
theorem cl65 : Callable Tryz.prog 65 := Zq Tryz.func65
theorem cl87 : Callable Tryz.prog 87 := Zq Tryz.func87
theorem cl98 : Callable Tryz.prog 98 := Zq Tryz.func98
set_option maxHeartbeats 1000000 in
set_option maxRecDepth 4000 in
theorem c_control (s : ByteArray) : PCall Tryz.prog 87 [.c (.string s)] (· = [.c (.bool (ctlB s))]) := by
 refine PCall_of (n := 8) Tryz.func87 rfl rfl (Nat.le_of_ble_eq_true rfl) fun C hdm hT0 => ?_
 have hT := hT0
 refine Zs fun _ hK1 => ?_
 refine Za ?_
 refine Zn hK1 ?_
 refine Zs fun _ hK2 => ?_
 refine AL_bD .one rfl te25 ts9 tz9 rfl rfl (by decide) (by decide) (by rfl) rfl ?_
 refine Za ?_
 refine Zn hK2 ?_
 refine Zs fun _ hK3 => ?_
 iterate 2 refine Zm ?_
 refine AL_fcall0 hT rfl cl55 (c_containsS ctlL s) rfl rfl ?_
 refine Za ?_
 refine Zn hK3 ?_
 refine AC_ret ?_
 exact Zr hdm rfl
set_option maxHeartbeats 1000000 in
set_option maxRecDepth 4000 in
theorem c_specControl (s : ByteArray) : PCall Tryz.prog 98 [.c (.string s)] (· = [.c (.bool (ctlB s))]) := by
 refine PCall_of (n := 32) Tryz.func98 rfl rfl (Nat.le_of_ble_eq_true rfl) fun C hdm hT0 => ?_
 have hT := hT0
 refine Zs fun _ hK1 => ?_
 refine Za ?_
 refine Zn hK1 ?_
 refine AC_seq fun _ hK2 => ?_
 refine Zs fun _ hK3 => ?_
 refine Zm ?_
 refine Zn hK3 ?_
 refine AC_block ?_
 refine AC_seq fun _ hK4 => ?_
 refine Zs fun _ hK5 => ?_
 refine Ze (Ev_seql rfl rfl) ?_
 refine Za ?_
 refine Zn hK5 ?_
 refine Zc (fun hc1 => ?_) fun hc1 => ?_
 ·refine Zk hK4 ?_
  refine AC_cond_t (congrArg bl hc1) ?_
  refine Zs fun _ hK6 => ?_
  refine Za ?_
  refine Zn hK6 ?_
  refine AC_ret ?_
  refine Zr hdm ?_
  simp only [decide_eq_true_eq, decide_eq_false_iff_not] at *
  first
   | (subst_vars; rfl)
   | (have hcf : ctlB s = false := by
       simp only [ctlB, ctlL, hasS, Bool.or_false, Bool.or_eq_false_iff, decide_eq_false_iff_not]
       and_intros <;> (intro h; subst h; simp_all)
      rw [hcf])
 ·refine Zs fun _ hK7 => ?_
  refine Ze (Ev_seql rfl rfl) ?_
  refine Za ?_
  refine Zn hK7 ?_
  refine Zc (fun hc2 => ?_) fun hc2 => ?_
  ·refine Zk hK4 ?_
   refine AC_cond_t (congrArg bl hc2) ?_
   refine Zs fun _ hK8 => ?_
   refine Za ?_
   refine Zn hK8 ?_
   refine AC_ret ?_
   refine Zr hdm ?_
   simp only [decide_eq_true_eq, decide_eq_false_iff_not] at *
   first
    | (subst_vars; rfl)
    | (have hcf : ctlB s = false := by
        simp only [ctlB, ctlL, hasS, Bool.or_false, Bool.or_eq_false_iff, decide_eq_false_iff_not]
        and_intros <;> (intro h; subst h; simp_all)
       rw [hcf])
  ·refine Zs fun _ hK9 => ?_
   refine Ze (Ev_seql rfl rfl) ?_
   refine Za ?_
   refine Zn hK9 ?_
   refine Zc (fun hc3 => ?_) fun hc3 => ?_
   ·refine Zk hK4 ?_
    refine AC_cond_t (congrArg bl hc3) ?_
    refine Zs fun _ hK10 => ?_
    refine Za ?_
    refine Zn hK10 ?_
    refine AC_ret ?_
    refine Zr hdm ?_
    simp only [decide_eq_true_eq, decide_eq_false_iff_not] at *
    first
     | (subst_vars; rfl)
     | (have hcf : ctlB s = false := by
         simp only [ctlB, ctlL, hasS, Bool.or_false, Bool.or_eq_false_iff, decide_eq_false_iff_not]
         and_intros <;> (intro h; subst h; simp_all)
        rw [hcf])
   ·refine Zs fun _ hK11 => ?_
    refine Ze (Ev_seql rfl rfl) ?_
    refine Za ?_
    refine Zn hK11 ?_
    refine Zc (fun hc4 => ?_) fun hc4 => ?_
    ·refine Zk hK4 ?_
     refine AC_cond_t (congrArg bl hc4) ?_
     refine Zs fun _ hK12 => ?_
     refine Za ?_
     refine Zn hK12 ?_
     refine AC_ret ?_
     refine Zr hdm ?_
     simp only [decide_eq_true_eq, decide_eq_false_iff_not] at *
     first
      | (subst_vars; rfl)
      | (have hcf : ctlB s = false := by
          simp only [ctlB, ctlL, hasS, Bool.or_false, Bool.or_eq_false_iff, decide_eq_false_iff_not]
          and_intros <;> (intro h; subst h; simp_all)
         rw [hcf])
    ·refine Zs fun _ hK13 => ?_
     refine Ze (Ev_seql rfl rfl) ?_
     refine Za ?_
     refine Zn hK13 ?_
     refine Zc (fun hc5 => ?_) fun hc5 => ?_
     ·refine Zk hK4 ?_
      refine AC_cond_t (congrArg bl hc5) ?_
      refine Zs fun _ hK14 => ?_
      refine Za ?_
      refine Zn hK14 ?_
      refine AC_ret ?_
      refine Zr hdm ?_
      simp only [decide_eq_true_eq, decide_eq_false_iff_not] at *
      first
       | (subst_vars; rfl)
       | (have hcf : ctlB s = false := by
           simp only [ctlB, ctlL, hasS, Bool.or_false, Bool.or_eq_false_iff, decide_eq_false_iff_not]
           and_intros <;> (intro h; subst h; simp_all)
          rw [hcf])
     ·refine Zs fun _ hK15 => ?_
      refine Ze (Ev_seql rfl rfl) ?_
      refine Za ?_
      refine Zn hK15 ?_
      refine Zc (fun hc6 => ?_) fun hc6 => ?_
      ·refine Zk hK4 ?_
       refine AC_cond_t (congrArg bl hc6) ?_
       refine Zs fun _ hK16 => ?_
       refine Za ?_
       refine Zn hK16 ?_
       refine AC_ret ?_
       refine Zr hdm ?_
       simp only [decide_eq_true_eq, decide_eq_false_iff_not] at *
       first
        | (subst_vars; rfl)
        | (have hcf : ctlB s = false := by
            simp only [ctlB, ctlL, hasS, Bool.or_false, Bool.or_eq_false_iff, decide_eq_false_iff_not]
            and_intros <;> (intro h; subst h; simp_all)
           rw [hcf])
      ·refine Zs fun _ hK17 => ?_
       refine Ze (Ev_seql rfl rfl) ?_
       refine Za ?_
       refine Zn hK17 ?_
       refine Zc (fun hc7 => ?_) fun hc7 => ?_
       ·refine Zk hK4 ?_
        refine AC_cond_t (congrArg bl hc7) ?_
        refine Zs fun _ hK18 => ?_
        refine Za ?_
        refine Zn hK18 ?_
        refine AC_ret ?_
        refine Zr hdm ?_
        simp only [decide_eq_true_eq, decide_eq_false_iff_not] at *
        first
         | (subst_vars; rfl)
         | (have hcf : ctlB s = false := by
             simp only [ctlB, ctlL, hasS, Bool.or_false, Bool.or_eq_false_iff, decide_eq_false_iff_not]
             and_intros <;> (intro h; subst h; simp_all)
            rw [hcf])
       ·refine Zs fun _ hK19 => ?_
        refine Ze (Ev_seql rfl rfl) ?_
        refine Za ?_
        refine Zn hK19 ?_
        refine Zc (fun hc8 => ?_) fun hc8 => ?_
        ·refine Zk hK4 ?_
         refine AC_cond_t (congrArg bl hc8) ?_
         refine Zs fun _ hK20 => ?_
         refine Za ?_
         refine Zn hK20 ?_
         refine AC_ret ?_
         refine Zr hdm ?_
         simp only [decide_eq_true_eq, decide_eq_false_iff_not] at *
         first
          | (subst_vars; rfl)
          | (have hcf : ctlB s = false := by
              simp only [ctlB, ctlL, hasS, Bool.or_false, Bool.or_eq_false_iff, decide_eq_false_iff_not]
              and_intros <;> (intro h; subst h; simp_all)
             rw [hcf])
        ·refine Zs fun _ hK21 => ?_
         refine Ze (Ev_seql rfl rfl) ?_
         refine Za ?_
         refine Zn hK21 ?_
         refine Zc (fun hc9 => ?_) fun hc9 => ?_
         ·refine Zk hK4 ?_
          refine AC_cond_t (congrArg bl hc9) ?_
          refine Zs fun _ hK22 => ?_
          refine Za ?_
          refine Zn hK22 ?_
          refine AC_ret ?_
          refine Zr hdm ?_
          simp only [decide_eq_true_eq, decide_eq_false_iff_not] at *
          first
           | (subst_vars; rfl)
           | (have hcf : ctlB s = false := by
               simp only [ctlB, ctlL, hasS, Bool.or_false, Bool.or_eq_false_iff, decide_eq_false_iff_not]
               and_intros <;> (intro h; subst h; simp_all)
              rw [hcf])
         ·refine Zs fun _ hK23 => ?_
          refine Ze (Ev_seql rfl rfl) ?_
          refine Za ?_
          refine Zn hK23 ?_
          refine Zc (fun hc10 => ?_) fun hc10 => ?_
          ·refine Zk hK4 ?_
           refine AC_cond_t (congrArg bl hc10) ?_
           refine Zs fun _ hK24 => ?_
           refine Za ?_
           refine Zn hK24 ?_
           refine AC_ret ?_
           refine Zr hdm ?_
           simp only [decide_eq_true_eq, decide_eq_false_iff_not] at *
           first
            | (subst_vars; rfl)
            | (have hcf : ctlB s = false := by
                simp only [ctlB, ctlL, hasS, Bool.or_false, Bool.or_eq_false_iff, decide_eq_false_iff_not]
                and_intros <;> (intro h; subst h; simp_all)
               rw [hcf])
          ·refine Zs fun _ hK25 => ?_
           refine Ze (Ev_seql rfl rfl) ?_
           refine Za ?_
           refine Zn hK25 ?_
           refine Zc (fun hc11 => ?_) fun hc11 => ?_
           ·refine Zk hK4 ?_
            refine AC_cond_t (congrArg bl hc11) ?_
            refine Zs fun _ hK26 => ?_
            refine Za ?_
            refine Zn hK26 ?_
            refine AC_ret ?_
            refine Zr hdm ?_
            simp only [decide_eq_true_eq, decide_eq_false_iff_not] at *
            first
             | (subst_vars; rfl)
             | (have hcf : ctlB s = false := by
                 simp only [ctlB, ctlL, hasS, Bool.or_false, Bool.or_eq_false_iff, decide_eq_false_iff_not]
                 and_intros <;> (intro h; subst h; simp_all)
                rw [hcf])
           ·refine AC_region ?_
            refine Ze (Ev_seql rfl rfl) ?_
            refine Za ?_
            refine Zn hK4 ?_
            refine Zc (fun hc12 => ?_) fun hc12 => ?_
            ·refine Zs fun _ hK27 => ?_
             refine Za ?_
             refine Zn hK27 ?_
             refine AC_ret ?_
             refine Zr hdm ?_
             simp only [decide_eq_true_eq, decide_eq_false_iff_not] at *
             first
              | (subst_vars; rfl)
              | (have hcf : ctlB s = false := by
                  simp only [ctlB, ctlL, hasS, Bool.or_false, Bool.or_eq_false_iff, decide_eq_false_iff_not]
                  and_intros <;> (intro h; subst h; simp_all)
                 rw [hcf])
            ·refine AC_seq fun _ hK28 => ?_
             refine Zs fun _ hK29 => ?_
             refine Ze (Ev_seql rfl rfl) ?_
             refine Za ?_
             refine Zn hK29 ?_
             refine Zc (fun hc13 => ?_) fun hc13 => ?_
             ·refine Zk hK28 ?_
              refine AC_cond_t (congrArg bl hc13) ?_
              refine Zs fun _ hK30 => ?_
              refine Za ?_
              refine Zn hK30 ?_
              refine AC_ret ?_
              refine Zr hdm ?_
              simp only [decide_eq_true_eq, decide_eq_false_iff_not] at *
              first
               | (subst_vars; rfl)
               | (have hcf : ctlB s = false := by
                   simp only [ctlB, ctlL, hasS, Bool.or_false, Bool.or_eq_false_iff, decide_eq_false_iff_not]
                   and_intros <;> (intro h; subst h; simp_all)
                  rw [hcf])
             ·refine Zs fun _ hK31 => ?_
              refine Ze (Ev_seql rfl rfl) ?_
              refine Za ?_
              refine Zn hK31 ?_
              refine Zc (fun hc14 => ?_) fun hc14 => ?_
              ·refine Zk hK28 ?_
               refine AC_cond_t (congrArg bl hc14) ?_
               refine Zs fun _ hK32 => ?_
               refine Za ?_
               refine Zn hK32 ?_
               refine AC_ret ?_
               refine Zr hdm ?_
               simp only [decide_eq_true_eq, decide_eq_false_iff_not] at *
               first
                | (subst_vars; rfl)
                | (have hcf : ctlB s = false := by
                    simp only [ctlB, ctlL, hasS, Bool.or_false, Bool.or_eq_false_iff, decide_eq_false_iff_not]
                    and_intros <;> (intro h; subst h; simp_all)
                   rw [hcf])
              ·refine Zs fun _ hK33 => ?_
               refine Ze (Ev_seql rfl rfl) ?_
               refine Za ?_
               refine Zn hK33 ?_
               refine Zc (fun hc15 => ?_) fun hc15 => ?_
               ·refine Zk hK28 ?_
                refine AC_cond_t (congrArg bl hc15) ?_
                refine Zs fun _ hK34 => ?_
                refine Za ?_
                refine Zn hK34 ?_
                refine AC_ret ?_
                refine Zr hdm ?_
                simp only [decide_eq_true_eq, decide_eq_false_iff_not] at *
                first
                 | (subst_vars; rfl)
                 | (have hcf : ctlB s = false := by
                     simp only [ctlB, ctlL, hasS, Bool.or_false, Bool.or_eq_false_iff, decide_eq_false_iff_not]
                     and_intros <;> (intro h; subst h; simp_all)
                    rw [hcf])
               ·refine Zs fun _ hK35 => ?_
                refine Ze (Ev_seql rfl rfl) ?_
                refine Za ?_
                refine Zn hK35 ?_
                refine Zc (fun hc16 => ?_) fun hc16 => ?_
                ·refine Zk hK28 ?_
                 refine AC_cond_t (congrArg bl hc16) ?_
                 refine Zs fun _ hK36 => ?_
                 refine Za ?_
                 refine Zn hK36 ?_
                 refine AC_ret ?_
                 refine Zr hdm ?_
                 simp only [decide_eq_true_eq, decide_eq_false_iff_not] at *
                 first
                  | (subst_vars; rfl)
                  | (have hcf : ctlB s = false := by
                      simp only [ctlB, ctlL, hasS, Bool.or_false, Bool.or_eq_false_iff, decide_eq_false_iff_not]
                      and_intros <;> (intro h; subst h; simp_all)
                     rw [hcf])
                ·refine Zs fun _ hK37 => ?_
                 refine Ze (Ev_seql rfl rfl) ?_
                 refine Za ?_
                 refine Zn hK37 ?_
                 refine Zc (fun hc17 => ?_) fun hc17 => ?_
                 ·refine Zk hK28 ?_
                  refine AC_cond_t (congrArg bl hc17) ?_
                  refine Zs fun _ hK38 => ?_
                  refine Za ?_
                  refine Zn hK38 ?_
                  refine AC_ret ?_
                  refine Zr hdm ?_
                  simp only [decide_eq_true_eq, decide_eq_false_iff_not] at *
                  first
                   | (subst_vars; rfl)
                   | (have hcf : ctlB s = false := by
                       simp only [ctlB, ctlL, hasS, Bool.or_false, Bool.or_eq_false_iff, decide_eq_false_iff_not]
                       and_intros <;> (intro h; subst h; simp_all)
                      rw [hcf])
                 ·refine Zs fun _ hK39 => ?_
                  refine Ze (Ev_seql rfl rfl) ?_
                  refine Za ?_
                  refine Zn hK39 ?_
                  refine Zc (fun hc18 => ?_) fun hc18 => ?_
                  ·refine Zk hK28 ?_
                   refine AC_cond_t (congrArg bl hc18) ?_
                   refine Zs fun _ hK40 => ?_
                   refine Za ?_
                   refine Zn hK40 ?_
                   refine AC_ret ?_
                   refine Zr hdm ?_
                   simp only [decide_eq_true_eq, decide_eq_false_iff_not] at *
                   first
                    | (subst_vars; rfl)
                    | (have hcf : ctlB s = false := by
                        simp only [ctlB, ctlL, hasS, Bool.or_false, Bool.or_eq_false_iff, decide_eq_false_iff_not]
                        and_intros <;> (intro h; subst h; simp_all)
                       rw [hcf])
                  ·refine Zs fun _ hK41 => ?_
                   refine Ze (Ev_seql rfl rfl) ?_
                   refine Za ?_
                   refine Zn hK41 ?_
                   refine Zc (fun hc19 => ?_) fun hc19 => ?_
                   ·refine Zk hK28 ?_
                    refine AC_cond_t (congrArg bl hc19) ?_
                    refine Zs fun _ hK42 => ?_
                    refine Za ?_
                    refine Zn hK42 ?_
                    refine AC_ret ?_
                    refine Zr hdm ?_
                    simp only [decide_eq_true_eq, decide_eq_false_iff_not] at *
                    first
                     | (subst_vars; rfl)
                     | (have hcf : ctlB s = false := by
                         simp only [ctlB, ctlL, hasS, Bool.or_false, Bool.or_eq_false_iff, decide_eq_false_iff_not]
                         and_intros <;> (intro h; subst h; simp_all)
                        rw [hcf])
                   ·refine Zs fun _ hK43 => ?_
                    refine Ze (Ev_seql rfl rfl) ?_
                    refine Za ?_
                    refine Zn hK43 ?_
                    refine Zc (fun hc20 => ?_) fun hc20 => ?_
                    ·refine Zk hK28 ?_
                     refine AC_cond_t (congrArg bl hc20) ?_
                     refine Zs fun _ hK44 => ?_
                     refine Za ?_
                     refine Zn hK44 ?_
                     refine AC_ret ?_
                     refine Zr hdm ?_
                     simp only [decide_eq_true_eq, decide_eq_false_iff_not] at *
                     first
                      | (subst_vars; rfl)
                      | (have hcf : ctlB s = false := by
                          simp only [ctlB, ctlL, hasS, Bool.or_false, Bool.or_eq_false_iff, decide_eq_false_iff_not]
                          and_intros <;> (intro h; subst h; simp_all)
                         rw [hcf])
                    ·refine Zs fun _ hK45 => ?_
                     refine Ze (Ev_seql rfl rfl) ?_
                     refine Za ?_
                     refine Zn hK45 ?_
                     refine Zc (fun hc21 => ?_) fun hc21 => ?_
                     ·refine Zk hK28 ?_
                      refine AC_cond_t (congrArg bl hc21) ?_
                      refine Zs fun _ hK46 => ?_
                      refine Za ?_
                      refine Zn hK46 ?_
                      refine AC_ret ?_
                      refine Zr hdm ?_
                      simp only [decide_eq_true_eq, decide_eq_false_iff_not] at *
                      first
                       | (subst_vars; rfl)
                       | (have hcf : ctlB s = false := by
                           simp only [ctlB, ctlL, hasS, Bool.or_false, Bool.or_eq_false_iff, decide_eq_false_iff_not]
                           and_intros <;> (intro h; subst h; simp_all)
                          rw [hcf])
                     ·refine Zs fun _ hK47 => ?_
                      refine Ze (Ev_seql rfl rfl) ?_
                      refine Za ?_
                      refine Zn hK47 ?_
                      refine Zc (fun hc22 => ?_) fun hc22 => ?_
                      ·refine Zk hK28 ?_
                       refine AC_cond_t (congrArg bl hc22) ?_
                       refine Zs fun _ hK48 => ?_
                       refine Za ?_
                       refine Zn hK48 ?_
                       refine AC_ret ?_
                       refine Zr hdm ?_
                       simp only [decide_eq_true_eq, decide_eq_false_iff_not] at *
                       first
                        | (subst_vars; rfl)
                        | (have hcf : ctlB s = false := by
                            simp only [ctlB, ctlL, hasS, Bool.or_false, Bool.or_eq_false_iff, decide_eq_false_iff_not]
                            and_intros <;> (intro h; subst h; simp_all)
                           rw [hcf])
                      ·refine Zs fun _ hK49 => ?_
                       refine Ze (Ev_seql rfl rfl) ?_
                       refine Za ?_
                       refine Zn hK49 ?_
                       refine Zc (fun hc23 => ?_) fun hc23 => ?_
                       ·refine Zk hK28 ?_
                        refine AC_cond_t (congrArg bl hc23) ?_
                        refine Zs fun _ hK50 => ?_
                        refine Za ?_
                        refine Zn hK50 ?_
                        refine AC_ret ?_
                        refine Zr hdm ?_
                        simp only [decide_eq_true_eq, decide_eq_false_iff_not] at *
                        first
                         | (subst_vars; rfl)
                         | (have hcf : ctlB s = false := by
                             simp only [ctlB, ctlL, hasS, Bool.or_false, Bool.or_eq_false_iff, decide_eq_false_iff_not]
                             and_intros <;> (intro h; subst h; simp_all)
                            rw [hcf])
                       ·refine Zs fun _ hK51 => ?_
                        refine Ze (Ev_seql rfl rfl) ?_
                        refine Za ?_
                        refine Zn hK51 ?_
                        refine Zc (fun hc24 => ?_) fun hc24 => ?_
                        ·refine Zk hK28 ?_
                         refine AC_cond_t (congrArg bl hc24) ?_
                         refine Zs fun _ hK52 => ?_
                         refine Za ?_
                         refine Zn hK52 ?_
                         refine AC_ret ?_
                         refine Zr hdm ?_
                         simp only [decide_eq_true_eq, decide_eq_false_iff_not] at *
                         first
                          | (subst_vars; rfl)
                          | (have hcf : ctlB s = false := by
                              simp only [ctlB, ctlL, hasS, Bool.or_false, Bool.or_eq_false_iff, decide_eq_false_iff_not]
                              and_intros <;> (intro h; subst h; simp_all)
                             rw [hcf])
                        ·refine Zs fun _ hK53 => ?_
                         refine Ze (Ev_seql rfl rfl) ?_
                         refine Za ?_
                         refine Zn hK53 ?_
                         refine Zc (fun hc25 => ?_) fun hc25 => ?_
                         ·refine Zk hK28 ?_
                          refine AC_cond_t (congrArg bl hc25) ?_
                          refine Zs fun _ hK54 => ?_
                          refine Za ?_
                          refine Zn hK54 ?_
                          refine AC_ret ?_
                          refine Zr hdm ?_
                          simp only [decide_eq_true_eq, decide_eq_false_iff_not] at *
                          first
                           | (subst_vars; rfl)
                           | (have hcf : ctlB s = false := by
                               simp only [ctlB, ctlL, hasS, Bool.or_false, Bool.or_eq_false_iff, decide_eq_false_iff_not]
                               and_intros <;> (intro h; subst h; simp_all)
                              rw [hcf])
                         ·refine AC_region ?_
                          refine Ze (Ev_seql rfl rfl) ?_
                          refine Za ?_
                          refine Zn hK28 ?_
                          refine Zc (fun hc26 => ?_) fun hc26 => ?_
                          ·refine Zs fun _ hK55 => ?_
                           refine Za ?_
                           refine Zn hK55 ?_
                           refine AC_ret ?_
                           refine Zr hdm ?_
                           simp only [decide_eq_true_eq, decide_eq_false_iff_not] at *
                           first
                            | (subst_vars; rfl)
                            | (have hcf : ctlB s = false := by
                                simp only [ctlB, ctlL, hasS, Bool.or_false, Bool.or_eq_false_iff, decide_eq_false_iff_not]
                                and_intros <;> (intro h; subst h; simp_all)
                               rw [hcf])
                          ·refine Zk hK2 ?_
                           refine Zs fun _ hK56 => ?_
                           refine Za ?_
                           refine Zn hK56 ?_
                           refine AC_ret ?_
                           refine Zr hdm ?_
                           simp only [decide_eq_true_eq, decide_eq_false_iff_not] at *
                           first
                            | (subst_vars; rfl)
                            | (have hcf : ctlB s = false := by
                                simp only [ctlB, ctlL, hasS, Bool.or_false, Bool.or_eq_false_iff, decide_eq_false_iff_not]
                                and_intros <;> (intro h; subst h; simp_all)
                               rw [hcf])
set_option maxHeartbeats 1000000 in
set_option maxRecDepth 4000 in
theorem c_l23Calls (t : T) : ∀ out : List ByteArray, bulk t ≤ 1099511627776 → out.length + sz t ≤ 1099511627776 → PCall Tryz.prog 65 [inj t, .sl .one (strs out)] (· = [.sl .one (strs (callsF t out))]) := by
 induction t using T.ind with | h k s m ks ih => ?_
 intro out hb hl
 refine PCall_of (n := 58) Tryz.func65 rfl rfl (Nat.le_of_ble_eq_true rfl) fun C hdm hT0 => ?_
 have hT := hT0
 refine Zs fun _ hK1 => ?_
 refine AL_box (Lay.st [.one, .one, .one, .one]) (nf rfl) rfl (by rfl) _ rfl rfl ?_
 refine Za ?_
 refine Zn hK1 ?_
 refine Zs fun _ hK2 => ?_
 refine YL ts41 ta41 ?_
 refine AL_fcall0 hT rfl cl34 (c_specPredOf _ hb) rfl rfl ?_
 refine Za ?_
 refine Zn hK2 ?_
 refine AC_seq fun _ hK3 => ?_
 refine Zs fun _ hK4 => ?_
 refine Zm ?_
 refine Zn hK4 ?_
 refine AC_block ?_
 refine AC_seq fun _ hK5 => ?_
 refine Zs fun _ hK6 => ?_
 refine Ze (Ev_seql rfl rfl) ?_
 refine Za ?_
 refine Zn hK6 ?_
 refine Zc (fun hc1 => ?_) fun hc1 => ?_
 ·have hp0 := of_decide_eq_true hc1
  obtain ⟨x, y, rfl⟩ := len2 (show ks.length = 2 from predS_kids [44] 2 (by omega) rfl hp0)
  have hp : predS (.mk k s m [x, y]) = cComma ∨ predS (.mk k s m [x, y]) = cSemi ∨ predS (.mk k s m [x, y]) = cArrow := .inl hp0
  have hu0 : (injs [x, y])[(0 : Int).toNat]? = some (inj x) := rfl
  have hu1 : (injs [x, y])[(1 : Int).toNat]? = some (inj y) := rfl
  simp only [sz, szs] at hl
  have hle := callsF_len x out
  refine Zk hK5 ?_
  refine AC_cond_t (congrArg bl hc1) ?_
  refine Zs fun _ hK7 => ?_
  refine Ya fa41_3 ?_
  refine Yl ts39 ta39 ?_
  refine Yi te39 ts41 ?_
  refine YP ts41 ta41 ?_
  refine Zm ?_
  refine AL_fcall0 hT rfl cl65 (ih x (by simp) (out) (bulk_mem hb x (by simp)) (by omega)) rfl rfl ?_
  refine Za ?_
  refine Zn hK7 ?_
  refine Zs fun _ hK8 => ?_
  refine Ya fa41_3 ?_
  refine Yl ts39 ta39 ?_
  refine Yi te39 ts41 ?_
  refine YP ts41 ta41 ?_
  refine Zm ?_
  refine AL_fcall0 hT rfl cl65 (ih y (by simp) (callsF x out) (bulk_mem hb y (by simp)) (by omega)) rfl rfl ?_
  refine Za ?_
  refine Zn hK8 ?_
  refine AC_ret ?_
  refine Zr hdm ?_
  exact congrArg (fun l => [D.sl .one (strs l)]) (eachF_two hp).symm
 ·refine Zs fun _ hK9 => ?_
  refine Ze (Ev_seql rfl rfl) ?_
  refine Za ?_
  refine Zn hK9 ?_
  refine Zc (fun hc2 => ?_) fun hc2 => ?_
  ·have hp0 := of_decide_eq_true hc2
   obtain ⟨x, y, rfl⟩ := len2 (show ks.length = 2 from predS_kids [59] 2 (by omega) rfl hp0)
   have hp : predS (.mk k s m [x, y]) = cComma ∨ predS (.mk k s m [x, y]) = cSemi ∨ predS (.mk k s m [x, y]) = cArrow := .inr (.inl hp0)
   have hu0 : (injs [x, y])[(0 : Int).toNat]? = some (inj x) := rfl
   have hu1 : (injs [x, y])[(1 : Int).toNat]? = some (inj y) := rfl
   simp only [sz, szs] at hl
   have hle := callsF_len x out
   refine Zk hK5 ?_
   refine AC_cond_t (congrArg bl hc2) ?_
   refine Zs fun _ hK10 => ?_
   refine Ya fa41_3 ?_
   refine Yl ts39 ta39 ?_
   refine Yi te39 ts41 ?_
   refine YP ts41 ta41 ?_
   refine Zm ?_
   refine AL_fcall0 hT rfl cl65 (ih x (by simp) (out) (bulk_mem hb x (by simp)) (by omega)) rfl rfl ?_
   refine Za ?_
   refine Zn hK10 ?_
   refine Zs fun _ hK11 => ?_
   refine Ya fa41_3 ?_
   refine Yl ts39 ta39 ?_
   refine Yi te39 ts41 ?_
   refine YP ts41 ta41 ?_
   refine Zm ?_
   refine AL_fcall0 hT rfl cl65 (ih y (by simp) (callsF x out) (bulk_mem hb y (by simp)) (by omega)) rfl rfl ?_
   refine Za ?_
   refine Zn hK11 ?_
   refine AC_ret ?_
   refine Zr hdm ?_
   exact congrArg (fun l => [D.sl .one (strs l)]) (eachF_two hp).symm
  ·refine AC_region ?_
   refine Ze (Ev_seql rfl rfl) ?_
   refine Za ?_
   refine Zn hK5 ?_
   refine Zc (fun hc3 => ?_) fun hc3 => ?_
   ·have hp0 := of_decide_eq_true hc3
    obtain ⟨x, y, rfl⟩ := len2 (show ks.length = 2 from predS_kids [45, 62] 2 (by omega) rfl hp0)
    have hp : predS (.mk k s m [x, y]) = cComma ∨ predS (.mk k s m [x, y]) = cSemi ∨ predS (.mk k s m [x, y]) = cArrow := .inr (.inr hp0)
    have hu0 : (injs [x, y])[(0 : Int).toNat]? = some (inj x) := rfl
    have hu1 : (injs [x, y])[(1 : Int).toNat]? = some (inj y) := rfl
    simp only [sz, szs] at hl
    have hle := callsF_len x out
    refine Zs fun _ hK12 => ?_
    refine Ya fa41_3 ?_
    refine Yl ts39 ta39 ?_
    refine Yi te39 ts41 ?_
    refine YP ts41 ta41 ?_
    refine Zm ?_
    refine AL_fcall0 hT rfl cl65 (ih x (by simp) (out) (bulk_mem hb x (by simp)) (by omega)) rfl rfl ?_
    refine Za ?_
    refine Zn hK12 ?_
    refine Zs fun _ hK13 => ?_
    refine Ya fa41_3 ?_
    refine Yl ts39 ta39 ?_
    refine Yi te39 ts41 ?_
    refine YP ts41 ta41 ?_
    refine Zm ?_
    refine AL_fcall0 hT rfl cl65 (ih y (by simp) (callsF x out) (bulk_mem hb y (by simp)) (by omega)) rfl rfl ?_
    refine Za ?_
    refine Zn hK13 ?_
    refine AC_ret ?_
    refine Zr hdm ?_
    exact congrArg (fun l => [D.sl .one (strs l)]) (eachF_two hp).symm
   ·refine AC_seq fun _ hK14 => ?_
    refine Zs fun _ hK15 => ?_
    refine Ze (Ev_seql rfl rfl) ?_
    refine Za ?_
    refine Zn hK15 ?_
    refine Zc (fun hc4 => ?_) fun hc4 => ?_
    ·have hp := of_decide_eq_true hc4
     obtain ⟨x, rfl⟩ := len1 (show ks.length = 1 from predS_kids [92, 43] 1 (by omega) rfl hp)
     have hu0 : (injs [x])[(0 : Int).toNat]? = some (inj x) := rfl
     simp only [sz, szs] at hl
     refine Zk hK14 ?_
     refine AC_cond_t (congrArg bl hc4) ?_
     refine Zs fun _ hK16 => ?_
     refine Ya fa41_3 ?_
     refine Yl ts39 ta39 ?_
     refine Yi te39 ts41 ?_
     refine YP ts41 ta41 ?_
     refine Zm ?_
     refine AL_fcall0 hT rfl cl65 (ih x (by simp) (out) (bulk_mem hb x (by simp)) (by omega)) rfl rfl ?_
     refine Za ?_
     refine Zn hK16 ?_
     refine AC_ret ?_
     refine Zr hdm ?_
     exact congrArg (fun l => [D.sl .one (strs l)]) ((eachF_neg x false true out).trans (eachF_not hp).symm)
    ·refine AC_region ?_
     refine Ze (Ev_seql rfl rfl) ?_
     refine Za ?_
     refine Zn hK14 ?_
     refine Zc (fun hc5 => ?_) fun hc5 => ?_
     ·have hp := of_decide_eq_true hc5
      obtain ⟨x, rfl⟩ := len1 (show ks.length = 1 from predS_kids [99, 97, 108, 108] 1 (by omega) rfl hp)
      have hu0 : (injs [x])[(0 : Int).toNat]? = some (inj x) := rfl
      simp only [sz, szs] at hl
      refine Zs fun _ hK17 => ?_
      refine Ya fa41_3 ?_
      refine Yl ts39 ta39 ?_
      refine Yi te39 ts41 ?_
      refine YP ts41 ta41 ?_
      refine Zm ?_
      refine AL_fcall0 hT rfl cl65 (ih x (by simp) (out) (bulk_mem hb x (by simp)) (by omega)) rfl rfl ?_
      refine Za ?_
      refine Zn hK17 ?_
      refine AC_ret ?_
      refine Zr hdm ?_
      exact congrArg (fun l => [D.sl .one (strs l)]) (eachF_call hp).symm
     ·refine Zs fun _ hK18 => ?_
      refine Ze (Ev_seql rfl rfl) ?_
      refine Za ?_
      refine Zn hK18 ?_
      refine Zc (fun hc6 => ?_) fun hc6 => ?_
      ·have hp := of_decide_eq_true hc6
       obtain ⟨x, y, z, rfl⟩ := len3 (show ks.length = 3 from predS_kids [99, 97, 116, 99, 104] 3 (by omega) rfl hp)
       have hu0 : (injs [x, y, z])[(0 : Int).toNat]? = some (inj x) := rfl
       have hu1 : (injs [x, y, z])[(2 : Int).toNat]? = some (inj z) := rfl
       simp only [sz, szs] at hl
       have hle := callsF_len x out
       refine Zs fun _ hK19 => ?_
       refine Ya fa41_3 ?_
       refine Yl ts39 ta39 ?_
       refine Yi te39 ts41 ?_
       refine YP ts41 ta41 ?_
       refine Zm ?_
       refine AL_fcall0 hT rfl cl65 (ih x (by simp) (out) (bulk_mem hb x (by simp)) (by omega)) rfl rfl ?_
       refine Za ?_
       refine Zn hK19 ?_
       refine Zs fun _ hK20 => ?_
       refine Ya fa41_3 ?_
       refine Yl ts39 ta39 ?_
       refine Yi te39 ts41 ?_
       refine YP ts41 ta41 ?_
       refine Zm ?_
       refine AL_fcall0 hT rfl cl65 (ih z (by simp) (callsF x out) (bulk_mem hb z (by simp)) (by omega)) rfl rfl ?_
       refine Za ?_
       refine Zn hK20 ?_
       refine AC_ret ?_
       refine Zr hdm ?_
       exact congrArg (fun l => [D.sl .one (strs l)]) (eachF_catch hp).symm
      ·refine Zk hK3 ?_
       refine AC_seq fun _ hK21 => ?_
       refine Zs fun _ hK22 => ?_
       refine Zm ?_
       refine Ze (Ev_seql rfl rfl) ?_
       refine Zm ?_
       refine Zb 50 (fun hg7 => ?_) fun hg7 => ?_
       ·iterate 2 refine Zg ?_
        refine Zp ?_
        refine Zn hK22 ?_
        refine AC_cond_t rfl ?_
        refine Zs fun _ hK23 => ?_
        refine Zm ?_
        refine Za ?_
        refine Zn hK23 ?_
        refine AC_ret ?_
        refine Zr hdm ?_
        exact congrArg (fun l => [D.sl .one (strs l)]) ((eachF_end hc1 hc2 hc3 hc4 hc5 hc6).trans (if_pos (by simp_all))).symm
       ·refine Zt ?_
        refine Zm ?_
        refine Zt ?_
        refine AL_fcall0 hT rfl cl98 (c_specControl (predS (.mk k s m ks))) rfl rfl ?_
        refine Zp ?_
        refine Zn hK22 ?_
        refine Zc (fun hc8 => ?_) fun hc8 => ?_
        ·refine Zs fun _ hK24 => ?_
         refine Zm ?_
         refine Za ?_
         refine Zn hK24 ?_
         refine AC_ret ?_
         refine Zr hdm ?_
         exact congrArg (fun l => [D.sl .one (strs l)]) ((eachF_end hc1 hc2 hc3 hc4 hc5 hc6).trans (if_pos (by simp_all))).symm
        ·refine Zk hK21 ?_
         refine Zs fun _ hK25 => ?_
         iterate 2 refine Zm ?_
         refine AL_fcall0 hT rfl cl41 (c_l23Add out (predS (.mk k s m ks)) (by rw [sz] at hl; omega)) rfl rfl ?_
         refine Za ?_
         refine Zn hK25 ?_
         refine AC_ret ?_
         refine Zr hdm ?_
         exact congrArg (fun l => [D.sl .one (strs l)]) (show callsF (.mk k s m ks) out = onceL out (predS (.mk k s m ks)) from (eachF_end hc1 hc2 hc3 hc4 hc5 hc6).trans (if_neg (by simp_all))).symm
set_option maxHeartbeats 1000000 in
set_option maxRecDepth 4000 in
theorem c_specCallsIn (t : T) (hb : bulk t ≤ 1099511627775) : PCall Tryz.prog 28 [inj t] (· = [.sl .one (strs (callsIn t))]) := by
 have hsb := sz_bulk t
 refine PCall_of (n := 10) Tryz.func28 rfl rfl (Nat.le_of_ble_eq_true rfl) fun C hdm hT0 => ?_
 have hT := hT0
 refine Zs fun _ hK1 => ?_
 refine AL_box (Lay.st [.one, .one, .one, .one]) (nf rfl) rfl (by simp [Lay.len, Lay.lens]) _ rfl rfl ?_
 refine Za ?_
 refine Zn hK1 ?_
 refine AC_seq fun _ hK2 => ?_
 refine Zs fun _ hK3 => ?_
 refine YL ts41 ta41 ?_
 refine AL_fcall0 hT rfl cl64 (c_specTermOk t (by omega)) rfl rfl ?_
 refine Ze (Ev_not rfl) ?_
 refine Zn hK3 ?_
 refine Zc (fun hc1 => ?_) fun hc1 => ?_
 ·refine Zs fun _ hK4 => ?_
  refine AL_bD .one rfl te25 ts9 tz9 rfl rfl (by decide) (by decide) (by rfl) rfl ?_
  refine Za ?_
  refine Zn hK4 ?_
  refine AC_ret ?_
  refine Zr hdm ?_
  rw [callsIn, if_neg (by simp_all)]
  rfl
 ·refine Zk hK2 ?_
  refine Zs fun _ hK5 => ?_
  refine YL ts41 ta41 ?_
  refine AL_bD .one rfl te25 ts9 tz9 rfl rfl (by decide) (by decide) (by rfl) rfl ?_
  refine AL_fcall0 hT rfl cl65 (c_l23Calls t [] (by omega) (by simp; omega)) rfl rfl ?_
  refine Za ?_
  refine Zn hK5 ?_
  refine AC_ret ?_
  refine Zr hdm ?_
  rw [callsIn, if_pos (by simp_all)]
set_option maxHeartbeats 1000000 in
set_option maxRecDepth 4000 in
theorem c_eachCall {A : Type} (J : Jx A) (kk : FuncId) (xs : List Value) (hxs : xs.all Value.scalar = true) (hcl : Callable Tryz.prog kk) (step : A → ByteArray → Bool → A) (μ : A → Int) (hμ : ∀ a s n, μ (step a s n) ≤ μ a + 1) (hf : ∀ s n a, μ a + 1 ≤ 1099511627776 → FCall Tryz.prog kk J ([.c (.string s), .c (.bool n)] ++ xs.map D.c) a (step a s n)) (t : T) : ∀ (neg : Bool) (a : A), bulk t ≤ 1099511627776 → μ a + sz t ≤ 1099511627776 → FCall Tryz.prog 45 (J) [inj t, .c (.bool neg), .c (.func (.func kk) #[] xs.toArray)] (a) (eachF step t neg a) := by
 induction t using T.ind with | h k s m ks ih => ?_
 intro neg a hb hl
 refine FCall_of (n := 72) Tryz.func45 rfl rfl (Nat.le_of_ble_eq_true rfl) fun C0 F hdm hT hJ => ?_
 have hM := Mk.refl C0 F
 have hS : ∀ b ∈ F, b ∈ F ∨ C0.w0.heap.size ≤ b := fun b hb => .inl hb
 refine Zs fun _ hK1 => ?_
 refine AL_box (Lay.st [.one, .one, .one, .one]) (nf rfl) rfl (by rfl) _ rfl rfl ?_
 refine Zn hK1 ?_
 refine Zs fun _ hK2 => ?_
 refine YL ts41 ta41 ?_
 refine AL_fcall0 hT rfl cl44 (c_predOf _ hb) rfl rfl ?_
 refine Za ?_
 refine Zn hK2 ?_
 refine Zs fun _ hK3 => ?_
 refine Zm ?_
 refine Zn hK3 ?_
 refine AC_block ?_
 refine AC_seq fun _ hK4 => ?_
 refine Zs fun _ hK5 => ?_
 refine Ze (Ev_seql rfl rfl) ?_
 refine Za ?_
 refine Zn hK5 ?_
 refine Zc (fun hc1 => ?_) fun hc1 => ?_
 ·have hp0 := of_decide_eq_true hc1
  obtain ⟨x, y, rfl⟩ := len2 (show ks.length = 2 from predS_kids [44] 2 (by omega) rfl hp0)
  have hp : predS (.mk k s m [x, y]) = cComma ∨ predS (.mk k s m [x, y]) = cSemi ∨ predS (.mk k s m [x, y]) = cArrow := .inl hp0
  have hu0 : (injs [x, y])[(0 : Int).toNat]? = some (inj x) := rfl
  have hu1 : (injs [x, y])[(1 : Int).toNat]? = some (inj y) := rfl
  simp only [sz, szs] at hl
  have hle := eachF_le hμ x neg a
  refine Zk hK4 ?_
  refine AC_cond_t (congrArg bl hc1) ?_
  refine Zs fun _ hK6 => ?_
  refine Ya fa41_3 ?_
  refine Yl ts39 ta39 ?_
  refine Yi te39 ts41 ?_
  refine YP ts41 ta41 ?_
  iterate 2 refine Zm ?_
  refine AL_jcall hT (ds := [inj x, .c (.bool neg), .c (.func (.func kk) #[] xs.toArray)]) (.plain rfl) rfl cl45 rfl (ih x (by simp) neg (a) (bulk_mem hb x (by simp)) (by omega)) hJ rfl fun C1 F1 hm1 hJ hs1 hT => ?_
  obtain ⟨hM, hS⟩ := jstep hM hS hm1 hs1
  clear hm1 hs1
  refine Zn hK6 ?_
  refine AC_region ?_
  refine Ya fa41_3 ?_
  refine Yl ts39 ta39 ?_
  refine Yi te39 ts41 ?_
  refine YP ts41 ta41 ?_
  iterate 2 refine Zm ?_
  refine AL_jcall hT (ds := [inj y, .c (.bool neg), .c (.func (.func kk) #[] xs.toArray)]) (.plain rfl) rfl cl45 rfl (ih y (by simp) neg (eachF step x neg a) (bulk_mem hb y (by simp)) (by omega)) hJ rfl fun C1 F1 hm1 hJ hs1 hT => ?_
  obtain ⟨hM, hS⟩ := jstep hM hS hm1 hs1
  clear hm1 hs1
  refine AL_nil ?_
  refine jend2 rfl hM hdm rfl hJ hS ?_
  exact eachF_two hp
 ·refine Zs fun _ hK7 => ?_
  refine Ze (Ev_seql rfl rfl) ?_
  refine Za ?_
  refine Zn hK7 ?_
  refine Zc (fun hc2 => ?_) fun hc2 => ?_
  ·have hp0 := of_decide_eq_true hc2
   obtain ⟨x, y, rfl⟩ := len2 (show ks.length = 2 from predS_kids [59] 2 (by omega) rfl hp0)
   have hp : predS (.mk k s m [x, y]) = cComma ∨ predS (.mk k s m [x, y]) = cSemi ∨ predS (.mk k s m [x, y]) = cArrow := .inr (.inl hp0)
   have hu0 : (injs [x, y])[(0 : Int).toNat]? = some (inj x) := rfl
   have hu1 : (injs [x, y])[(1 : Int).toNat]? = some (inj y) := rfl
   simp only [sz, szs] at hl
   have hle := eachF_le hμ x neg a
   refine Zk hK4 ?_
   refine AC_cond_t (congrArg bl hc2) ?_
   refine Zs fun _ hK8 => ?_
   refine Ya fa41_3 ?_
   refine Yl ts39 ta39 ?_
   refine Yi te39 ts41 ?_
   refine YP ts41 ta41 ?_
   iterate 2 refine Zm ?_
   refine AL_jcall hT (ds := [inj x, .c (.bool neg), .c (.func (.func kk) #[] xs.toArray)]) (.plain rfl) rfl cl45 rfl (ih x (by simp) neg (a) (bulk_mem hb x (by simp)) (by omega)) hJ rfl fun C1 F1 hm1 hJ hs1 hT => ?_
   obtain ⟨hM, hS⟩ := jstep hM hS hm1 hs1
   clear hm1 hs1
   refine Zn hK8 ?_
   refine AC_region ?_
   refine Ya fa41_3 ?_
   refine Yl ts39 ta39 ?_
   refine Yi te39 ts41 ?_
   refine YP ts41 ta41 ?_
   iterate 2 refine Zm ?_
   refine AL_jcall hT (ds := [inj y, .c (.bool neg), .c (.func (.func kk) #[] xs.toArray)]) (.plain rfl) rfl cl45 rfl (ih y (by simp) neg (eachF step x neg a) (bulk_mem hb y (by simp)) (by omega)) hJ rfl fun C1 F1 hm1 hJ hs1 hT => ?_
   obtain ⟨hM, hS⟩ := jstep hM hS hm1 hs1
   clear hm1 hs1
   refine AL_nil ?_
   refine jend2 rfl hM hdm rfl hJ hS ?_
   exact eachF_two hp
  ·refine AC_region ?_
   refine Ze (Ev_seql rfl rfl) ?_
   refine Za ?_
   refine Zn hK4 ?_
   refine Zc (fun hc3 => ?_) fun hc3 => ?_
   ·have hp0 := of_decide_eq_true hc3
    obtain ⟨x, y, rfl⟩ := len2 (show ks.length = 2 from predS_kids [45, 62] 2 (by omega) rfl hp0)
    have hp : predS (.mk k s m [x, y]) = cComma ∨ predS (.mk k s m [x, y]) = cSemi ∨ predS (.mk k s m [x, y]) = cArrow := .inr (.inr hp0)
    have hu0 : (injs [x, y])[(0 : Int).toNat]? = some (inj x) := rfl
    have hu1 : (injs [x, y])[(1 : Int).toNat]? = some (inj y) := rfl
    simp only [sz, szs] at hl
    have hle := eachF_le hμ x neg a
    refine Zs fun _ hK9 => ?_
    refine Ya fa41_3 ?_
    refine Yl ts39 ta39 ?_
    refine Yi te39 ts41 ?_
    refine YP ts41 ta41 ?_
    iterate 2 refine Zm ?_
    refine AL_jcall hT (ds := [inj x, .c (.bool neg), .c (.func (.func kk) #[] xs.toArray)]) (.plain rfl) rfl cl45 rfl (ih x (by simp) neg (a) (bulk_mem hb x (by simp)) (by omega)) hJ rfl fun C1 F1 hm1 hJ hs1 hT => ?_
    obtain ⟨hM, hS⟩ := jstep hM hS hm1 hs1
    clear hm1 hs1
    refine Zn hK9 ?_
    refine AC_region ?_
    refine Ya fa41_3 ?_
    refine Yl ts39 ta39 ?_
    refine Yi te39 ts41 ?_
    refine YP ts41 ta41 ?_
    iterate 2 refine Zm ?_
    refine AL_jcall hT (ds := [inj y, .c (.bool neg), .c (.func (.func kk) #[] xs.toArray)]) (.plain rfl) rfl cl45 rfl (ih y (by simp) neg (eachF step x neg a) (bulk_mem hb y (by simp)) (by omega)) hJ rfl fun C1 F1 hm1 hJ hs1 hT => ?_
    obtain ⟨hM, hS⟩ := jstep hM hS hm1 hs1
    clear hm1 hs1
    refine AL_nil ?_
    refine jend2 rfl hM hdm rfl hJ hS ?_
    exact eachF_two hp
   ·refine Zs fun _ hK10 => ?_
    refine Ze (Ev_seql rfl rfl) ?_
    refine Za ?_
    refine Zn hK10 ?_
    refine Zc (fun hc4 => ?_) fun hc4 => ?_
    ·have hp := of_decide_eq_true hc4
     obtain ⟨x, rfl⟩ := len1 (show ks.length = 1 from predS_kids [92, 43] 1 (by omega) rfl hp)
     have hu0 : (injs [x])[(0 : Int).toNat]? = some (inj x) := rfl
     simp only [sz, szs] at hl
     refine AC_region ?_
     refine Ya fa41_3 ?_
     refine Yl ts39 ta39 ?_
     refine Yi te39 ts41 ?_
     refine YP ts41 ta41 ?_
     refine Zm ?_
     refine AL_jcall hT (ds := [inj x, .c (.bool true), .c (.func (.func kk) #[] xs.toArray)]) (.plain rfl) rfl cl45 rfl (ih x (by simp) true (a) (bulk_mem hb x (by simp)) (by omega)) hJ rfl fun C1 F1 hm1 hJ hs1 hT => ?_
     obtain ⟨hM, hS⟩ := jstep hM hS hm1 hs1
     clear hm1 hs1
     refine AL_nil ?_
     refine jend2 rfl hM hdm rfl hJ hS ?_
     exact eachF_not hp
    ·refine Zs fun _ hK11 => ?_
     refine Ze (Ev_seql rfl rfl) ?_
     refine Za ?_
     refine Zn hK11 ?_
     refine Zc (fun hc5 => ?_) fun hc5 => ?_
     ·have hp := of_decide_eq_true hc5
      obtain ⟨x, rfl⟩ := len1 (show ks.length = 1 from predS_kids [99, 97, 108, 108] 1 (by omega) rfl hp)
      have hu0 : (injs [x])[(0 : Int).toNat]? = some (inj x) := rfl
      simp only [sz, szs] at hl
      refine AC_region ?_
      refine Ya fa41_3 ?_
      refine Yl ts39 ta39 ?_
      refine Yi te39 ts41 ?_
      refine YP ts41 ta41 ?_
      iterate 2 refine Zm ?_
      refine AL_jcall hT (ds := [inj x, .c (.bool neg), .c (.func (.func kk) #[] xs.toArray)]) (.plain rfl) rfl cl45 rfl (ih x (by simp) neg (a) (bulk_mem hb x (by simp)) (by omega)) hJ rfl fun C1 F1 hm1 hJ hs1 hT => ?_
      obtain ⟨hM, hS⟩ := jstep hM hS hm1 hs1
      clear hm1 hs1
      refine AL_nil ?_
      refine jend2 rfl hM hdm rfl hJ hS ?_
      exact eachF_call hp
     ·refine Zs fun _ hK12 => ?_
      refine Ze (Ev_seql rfl rfl) ?_
      refine Za ?_
      refine Zn hK12 ?_
      refine Zc (fun hc6 => ?_) fun hc6 => ?_
      ·have hp := of_decide_eq_true hc6
       obtain ⟨x, y, z, rfl⟩ := len3 (show ks.length = 3 from predS_kids [99, 97, 116, 99, 104] 3 (by omega) rfl hp)
       have hu0 : (injs [x, y, z])[(0 : Int).toNat]? = some (inj x) := rfl
       have hu1 : (injs [x, y, z])[(2 : Int).toNat]? = some (inj z) := rfl
       simp only [sz, szs] at hl
       have hle := eachF_le hμ x neg a
       refine Zs fun _ hK13 => ?_
       refine Ya fa41_3 ?_
       refine Yl ts39 ta39 ?_
       refine Yi te39 ts41 ?_
       refine YP ts41 ta41 ?_
       iterate 2 refine Zm ?_
       refine AL_jcall hT (ds := [inj x, .c (.bool neg), .c (.func (.func kk) #[] xs.toArray)]) (.plain rfl) rfl cl45 rfl (ih x (by simp) neg (a) (bulk_mem hb x (by simp)) (by omega)) hJ rfl fun C1 F1 hm1 hJ hs1 hT => ?_
       obtain ⟨hM, hS⟩ := jstep hM hS hm1 hs1
       clear hm1 hs1
       refine Zn hK13 ?_
       refine AC_region ?_
       refine Ya fa41_3 ?_
       refine Yl ts39 ta39 ?_
       refine Yi te39 ts41 ?_
       refine YP ts41 ta41 ?_
       iterate 2 refine Zm ?_
       refine AL_jcall hT (ds := [inj z, .c (.bool neg), .c (.func (.func kk) #[] xs.toArray)]) (.plain rfl) rfl cl45 rfl (ih z (by simp) neg (eachF step x neg a) (bulk_mem hb z (by simp)) (by omega)) hJ rfl fun C1 F1 hm1 hJ hs1 hT => ?_
       obtain ⟨hM, hS⟩ := jstep hM hS hm1 hs1
       clear hm1 hs1
       refine AL_nil ?_
       refine jend2 rfl hM hdm rfl hJ hS ?_
       exact eachF_catch hp
      ·refine Zs fun _ hK14 => ?_
       refine Zm ?_
       refine Ze (Ev_sneq rfl rfl) ?_
       refine Zm ?_
       refine Zb 12 (fun hg7 => ?_) fun hg7 => ?_
       ·refine Zt ?_
        refine Zm ?_
        refine Zt ?_
        refine AL_fcall0 hT rfl cl87 (c_control (predS (.mk k s m ks))) rfl rfl ?_
        refine Zt ?_
        refine Ze (Ev_not rfl) ?_
        refine Zp ?_
        refine Zn hK14 ?_
        refine Zc (fun hc8 => ?_) fun hc8 => ?_
        ·refine AC_region ?_
         iterate 3 refine Zm ?_
         refine AL_jcall hT (ds := [.c (.string (predS (.mk k s m ks))), .c (.bool neg)]) (.clo rfl) hxs hcl rfl (hf (predS (.mk k s m ks)) neg a (by rw [sz] at hl; omega)) hJ rfl fun C1 F1 hm1 hJ hs1 hT => ?_
         obtain ⟨hM, hS⟩ := jstep hM hS hm1 hs1
         refine AL_nil ?_
         refine jend2 rfl hM hdm rfl hJ hS ?_
         exact (eachF_end hc1 hc2 hc3 hc4 hc5 hc6).trans (if_neg (by simp_all))
        ·refine AC_skip ?_
         refine jend2 rfl hM hdm rfl hJ hS ?_
         exact (eachF_end hc1 hc2 hc3 hc4 hc5 hc6).trans (if_pos (by simp_all))
       ·iterate 3 refine Zg ?_
        refine Zp ?_
        refine Zn hK14 ?_
        refine AC_cond_f rfl ?_
        refine AC_skip ?_
        refine jend2 rfl hM hdm rfl hJ hS ?_
        exact (eachF_end hc1 hc2 hc3 hc4 hc5 hc6).trans (if_pos (by simp_all))
end Go.Proofs.YtjgliechbnommaaGreatDoor
set_option linter.unusedVariables false
set_option linter.unusedSimpArgs false
namespace Go.Proofs.YtjgliechbnommaaGreatDoor
open Go.Eng
theorem cl113 : Callable Tryz.prog 113 := Zq Tryz.func113
theorem cl28 : Callable Tryz.prog 28 := Zq Tryz.func28
theorem cl51 : Callable Tryz.prog 51 := Zq Tryz.func51
theorem cl89 : Callable Tryz.prog 89 := Zq Tryz.func89
theorem cl90 : Callable Tryz.prog 90 := Zq Tryz.func90
theorem fa54_1 : tyField Tryz.prog 54 1 = some (4, true) := by kernel_rfl
theorem ta27 : tyAgg Tryz.prog 27 = some true := by kernel_rfl
theorem tb54 : tyBytes Tryz.prog 54 = some 128 := by kernel_rfl
theorem ts27 : tySize Tryz.prog 27 = some 2 := by kernel_rfl
set_option maxHeartbeats 1000000 in
set_option maxRecDepth 4000 in
theorem c_l34Clause (c : Cl) : PCall Tryz.prog 113 [injC c] (· = [injC c]) := by
 obtain ⟨h, b, f⟩ := c
 refine PCall_of (n := 12) Tryz.func113 rfl rfl (Nat.le_of_ble_eq_true rfl) fun C hdm hT0 => ?_
 have hT := hT0
 refine Zs fun _ hK1 => ?_
 refine AL_box (Lay.st [(Lay.st [.one, .one, .one, .one]), (Lay.st [.one, .one, .one, .one]), .one]) (nf rfl) rfl (by rfl) _ rfl rfl ?_
 refine AL_alloc zo54 _ rfl rfl ?_
 refine Zn hK1 ?_
 refine Zs fun _ hK2 => ?_
 refine Ya fa54_0 ?_
 refine YL ts41 ta41 ?_
 refine AL_fcall0 hT rfl cl143 (c_l34Term h) rfl rfl ?_
 refine Ya fa54_0 ?_
 refine Ys ts41 ?_
 refine Zn hK2 ?_
 refine Zs fun _ hK3 => ?_
 refine Ya fa54_1 ?_
 refine YL ts41 ta41 ?_
 refine AL_fcall0 hT rfl cl143 (c_l34Term b) rfl rfl ?_
 refine Ya fa54_1 ?_
 refine Ys ts41 ?_
 refine Zn hK3 ?_
 refine Zs fun _ hK4 => ?_
 refine YL ts54 ta54 ?_
 refine Ys ts54 ?_
 refine Zn hK4 ?_
 refine AC_ret ?_
 exact ret_ok hdm (.cell rfl rfl rfl rfl rfl rfl ts54 ta54 (by rfl) (by intro h; cases h) .nil) (.cons (by exact .agg (.cons .d (.cons .d (.cons .d .nil)))) .nil) rfl
set_option maxHeartbeats 1000000 in
set_option maxRecDepth 4000 in
theorem c_l34Clauses (cs : List Cl) : PCall Tryz.prog 90 [.sl LC (injCs cs)] (· = [.sl LC (injCs cs)]) := by
 refine PCall_of (n := 21) Tryz.func90 rfl rfl (Nat.le_of_ble_eq_true rfl) fun C hdm hT0 => ?_
 have hT := hT0
 refine Zs fun _ hK1 => ?_
 refine Za ?_
 refine Zn hK1 ?_
 refine Zs fun _ hK2 => ?_
 refine AL_bV (Lay.st [(Lay.st [.one, .one, .one, .one]), (Lay.st [.one, .one, .one, .one]), .one]) rfl te24 ts54 tz54 rfl rfl (by decide) (by decide) (by rfl) _ rfl rfl ?_
 refine Za ?_
 refine Zn hK2 ?_
 refine AC_seq fun _ hK3 => ?_
 refine Zs fun _ hK4 => ?_
 refine Za ?_
 refine Zn hK4 ?_
 refine AC_block ?_
 refine AC_loopS [0] (Nat × List Cl) (fun ⟨j, out⟩ => [(4, i64 j), (3, .ref LC 0 0 (injCs out).length)]) (fun ⟨j, out⟩ => [some ⟨54, LC, (injCs out).map V.d⟩]) (fun st => cs.length - st.1) (fun ⟨j, out⟩ => j ≤ cs.length ∧ (cs = out ++ cs.drop j ∧ out.length ≤ j)) ((0, [])) ?_ ?_ ?_
 ·exact enterS [some 0] rfl rfl (BxTo_some rfl rfl rfl rfl (by exact .nil) BxTo_nil) Sl_
 ·exact ⟨Nat.zero_le _, by simp, by simp⟩
 rintro ⟨j, out⟩ ⟨hj, ⟨hI, ho⟩⟩
 show AC _ _ _ _ _ (FS [0] _ [(4, i64 j), (3, .ref LC 0 0 (injCs out).length)]) [some ⟨54, LC, (injCs out).map V.d⟩]
 refine AC_seq fun _ hK5 => ?_
 refine Zs fun _ hK6 => ?_
 iterate 2 refine Zm ?_
 refine AL_lim (x := (Operand.tmp 7)) rfl fun hl1 => ?_
 try simp only [injs_length, ints_length, strs_length, injCs_length, u8s_length, List.length_map] at hl1
 refine Ze (Ev_len_injCs te24 rfl) ?_
 refine Ze (Ev_lss rfl rfl) ?_
 refine Zn hK6 ?_
 refine Zc (fun hc1 => ?_) fun hc1 => ?_
 ·have hlt : j < cs.length := by simpa using hc1
  obtain ⟨u, hu⟩ : ∃ x, cs[j]? = some x := ⟨_, List.getElem?_eq_getElem hlt⟩
  have hu2 := injCs_get hu
  have hdr := drop_get hu
  refine Zk hK5 ?_
  refine AC_seq fun _ hK7 => ?_
  refine AC_block ?_
  refine AC_region ?_
  iterate 3 refine Zm ?_
  refine Yi te24 ts54 ?_
  refine YP ts54 ta54 ?_
  refine AL_fcall0 hT rfl cl113 (c_l34Clause u) rfl rfl ?_
  refine AL_bD (Lay.st [(Lay.st [.one, .one, .one, .one]), (Lay.st [.one, .one, .one, .one]), .one]) rfl te24 ts54 tz54 rfl rfl (by decide) (by decide) (by rfl) rfl ?_
  refine AL_append rfl rfl rfl te24 ts54 tz54 rfl tb54 (by decide) (by decide) rfl (by (simp; done)) (Src_sl rfl) (by simp only [lim]; (simp; omega)) _ rfl rfl ?_
  refine Za ?_
  refine Zn hK7 ?_
  refine AC_region ?_
  refine Zm ?_
  refine Ze (Ev_add rfl rfl _ (wrap_id (by omega) (by omega))) ?_
  refine Za ?_
  refine AL_nil ?_
  refine closeS (j + 1, out ++ [u]) [some 1] rfl rfl (by show cs.length - (j + 1) < cs.length - j; omega) ⟨hlt, ?_⟩ (BxTo_some rfl rfl rfl rfl (by exact VwL_app (by (simp [injCs]; done))) BxTo_nil) Sl_
  exact ⟨by rw [List.append_assoc, List.singleton_append, ← hdr]; exact hI, by simp; omega⟩
 ·have hj2 : j = cs.length := by
   have : ¬ j < cs.length := by simpa using hc1
   omega
  subst hj2
  rw [List.drop_length] at hI
  refine Zx hK3 ?_
  refine Zs fun _ hK8 => ?_
  refine Zm ?_
  refine Za ?_
  refine Zn hK8 ?_
  refine AC_ret ?_
  refine ret_ok hdm (.tmp rfl rfl .nil) (.cons (.ref trivial rfl rfl (by simp) (ReadsL_d _)) .nil) ?_
  rw [List.append_nil] at hI
  rw [← hI]
set_option maxHeartbeats 1000000 in
set_option maxRecDepth 4000 in
theorem c_clausesRaw (d : Dbt) (p : ByteArray) (hb : bulkD d ≤ 1099511627776) : PCall Tryz.prog 89 [injD d, .c (.string p)] (· = [.sl LC (injCs (clsOf d.cs p))]) := by
 obtain ⟨cs, op⟩ := d
 obtain ⟨hnc, hbc, hno, hbo⟩ := bulkD_bd hb
 refine PCall_of (n := 33) Tryz.func89 rfl rfl (Nat.le_of_ble_eq_true rfl) fun C hdm hT0 => ?_
 have hT := hT0
 refine Zs fun _ hK1 => ?_
 refine AL_box (Lay.st [.one, .one]) (nf rfl) rfl (by rfl) _ rfl rfl ?_
 refine Za ?_
 refine Zn hK1 ?_
 refine Zs fun _ hK2 => ?_
 refine AL_bV (Lay.st [(Lay.st [.one, .one, .one, .one]), (Lay.st [.one, .one, .one, .one]), .one]) rfl te24 ts54 tz54 rfl rfl (by decide) (by decide) (by rfl) _ rfl rfl ?_
 refine Za ?_
 refine Zn hK2 ?_
 refine AC_seq fun _ hK3 => ?_
 refine Zs fun _ hK4 => ?_
 refine Za ?_
 refine Zn hK4 ?_
 refine AC_block ?_
 refine AC_loopS [1] (Nat × List Cl) (fun ⟨j, out⟩ => [(6, i64 j), (5, .ref LC 0 0 (injCs out).length), (2, .d (.rp (Lay.st [.one, .one]) (injD ⟨cs, op⟩) []))]) (fun ⟨j, out⟩ => [some ⟨54, LC, (injCs out).map V.d⟩]) (fun st => cs.length - st.1) (fun ⟨j, out⟩ => j ≤ cs.length ∧ (clsOf cs p = out ++ clsOf (cs.drop j) p ∧ out.length ≤ j)) ((0, [])) ?_ ?_ ?_
 ·exact enterS [some 1] rfl rfl (BxTo_some rfl rfl rfl rfl (by exact .nil) BxTo_nil) Sl_
 ·exact ⟨Nat.zero_le _, by simp, by simp⟩
 rintro ⟨j, out⟩ ⟨hj, ⟨hI, ho⟩⟩
 show AC _ _ _ _ _ (FS [1] _ [(6, i64 j), (5, .ref LC 0 0 (injCs out).length), (2, .d (.rp (Lay.st [.one, .one]) (injD ⟨cs, op⟩) []))]) [some ⟨54, LC, (injCs out).map V.d⟩]
 refine AC_seq fun _ hK5 => ?_
 refine Zs fun _ hK6 => ?_
 refine Zm ?_
 refine Yr fa27_0 ?_
 refine Yp ts24 ta24 ?_
 refine AL_lim (x := (Operand.tmp 10)) rfl fun hl1 => ?_
 try simp only [injs_length, ints_length, strs_length, injCs_length, u8s_length, List.length_map] at hl1
 refine Ze (Ev_len_injCs te24 rfl) ?_
 refine Ze (Ev_lss rfl rfl) ?_
 refine Zn hK6 ?_
 refine Zc (fun hc1 => ?_) fun hc1 => ?_
 ·have hlt : j < cs.length := by simpa using hc1
  obtain ⟨u, hu⟩ : ∃ x, cs[j]? = some x := ⟨_, List.getElem?_eq_getElem hlt⟩
  have hu2 := injCs_get hu
  have hdr := drop_get hu
  obtain ⟨hbu, _, _⟩ := bulkCs_bd (List.mem_of_getElem? hu) hbc
  rw [hdr, clsOf] at hI
  refine Zk hK5 ?_
  refine AC_seq fun _ hK7 => ?_
  refine AC_block ?_
  refine Zs fun _ hK8 => ?_
  refine Yr fa27_0 ?_
  refine Yp ts24 ta24 ?_
  refine Zm ?_
  refine Yi te24 ts54 ?_
  refine Yr fa54_0 ?_
  refine YP ts41 ta41 ?_
  refine AL_fcall0 hT rfl cl34 (c_specPredOf u.h (by omega)) rfl rfl ?_
  refine Zm ?_
  refine Ze (Ev_seql rfl rfl) ?_
  refine Zn hK8 ?_
  refine Zc (fun hc2 => ?_) fun hc2 => ?_
  ·refine AC_region ?_
   refine Zm ?_
   refine Yr fa27_0 ?_
   refine Yp ts24 ta24 ?_
   refine Zm ?_
   refine Yi te24 ts54 ?_
   refine YP ts54 ta54 ?_
   refine AL_bD (Lay.st [(Lay.st [.one, .one, .one, .one]), (Lay.st [.one, .one, .one, .one]), .one]) rfl te24 ts54 tz54 rfl rfl (by decide) (by decide) (by rfl) rfl ?_
   refine AL_append rfl rfl rfl te24 ts54 tz54 rfl tb54 (by decide) (by decide) rfl (by (simp; done)) (Src_sl rfl) (by simp only [lim]; (simp; omega)) _ rfl rfl ?_
   refine Za ?_
   refine Zn hK7 ?_
   refine AC_region ?_
   refine Zm ?_
   refine Ze (Ev_add rfl rfl _ (wrap_id (by omega) (by omega))) ?_
   refine Za ?_
   refine AL_nil ?_
   refine closeS (j + 1, out ++ [u]) [some 1] rfl rfl (by show cs.length - (j + 1) < cs.length - j; omega) ⟨hlt, ?_⟩ (BxTo_some rfl rfl rfl rfl (by exact VwL_app (by (simp [injCs]; done))) BxTo_nil) Sl_
   exact ⟨by rw [hI, ite_dec hc2]; simp, by simp; omega⟩
  ·refine Zk hK7 ?_
   refine AC_region ?_
   refine Zm ?_
   refine Ze (Ev_add rfl rfl _ (wrap_id (by omega) (by omega))) ?_
   refine Za ?_
   refine AL_nil ?_
   refine closeS (j + 1, out) [some 0] rfl rfl (by show cs.length - (j + 1) < cs.length - j; omega) ⟨hlt, ?_⟩ (BxTo_some rfl rfl rfl rfl (by exact VwL_dd (by rfl)) BxTo_nil) Sl_
   exact ⟨by rw [hI, ite_decn hc2], by omega⟩
 ·have hj2 : j = cs.length := by
   have : ¬ j < cs.length := by simpa using hc1
   omega
  subst hj2
  rw [List.drop_length] at hI
  refine Zx hK3 ?_
  refine Zs fun _ hK9 => ?_
  refine Zm ?_
  refine Za ?_
  refine Zn hK9 ?_
  refine AC_ret ?_
  refine ret_ok hdm (.tmp rfl rfl .nil) (.cons (.ref trivial rfl rfl (by simp) (ReadsL_d _)) .nil) ?_
  rw [clsOf, List.append_nil] at hI
  rw [hI]
set_option maxHeartbeats 1000000 in
set_option maxRecDepth 4000 in
theorem c_specClausesOf (d : Dbt) (p : ByteArray) (hb : bulkD d ≤ 1099511627776) : PCall Tryz.prog 51 [injD d, .c (.string p)] (· = [.sl LC (injCs (clsOf d.cs p))]) := by
 refine PCall_of (n := 11) Tryz.func51 rfl rfl (Nat.le_of_ble_eq_true rfl) fun C hdm hT0 => ?_
 have hT := hT0
 refine Zs fun _ hK1 => ?_
 refine AL_box (Lay.st [.one, .one]) (nf rfl) rfl (by rfl) _ rfl rfl ?_
 refine Za ?_
 refine Zn hK1 ?_
 refine Zs fun _ hK2 => ?_
 refine YL ts27 ta27 ?_
 refine Zm ?_
 refine AL_fcall0 hT rfl cl89 (c_clausesRaw d p hb) rfl rfl ?_
 refine Za ?_
 refine Zn hK2 ?_
 refine Zs fun _ hK3 => ?_
 refine Zm ?_
 refine AL_fcall0 hT rfl cl90 (c_l34Clauses (clsOf d.cs p)) rfl rfl ?_
 refine Za ?_
 refine Zn hK3 ?_
 refine AC_ret ?_
 exact Zr hdm rfl
set_option maxHeartbeats 1000000 in
set_option maxRecDepth 4000 in
theorem c_specCallsOf (d : Dbt) (p : ByteArray) (hb : bulkD d ≤ 1048576) : PCall Tryz.prog 14 [injD d, .c (.string p)] (· = [.sl .one (strs (callsOf d p))]) := by
 have hcl := callsOf_len d p
 have hw := wC_bulk d.cs
 have hw2 := wC_clsOf d.cs p
 obtain ⟨hnc, hbc, hno, hbo⟩ := bulkD_bd (cs := d.cs) (op := d.op) hb
 have hmem := fun c (h : c ∈ clsOf d.cs p) => bulkCs_bd (clsOf_mem h) hbc
 have hll := clsOf_len d.cs p
 obtain ⟨xs, hxs⟩ : ∃ xs, xs = clsOf d.cs p := ⟨_, rfl⟩
 unfold callsOf at hcl ⊢
 rw [← hxs] at hcl hw2 hmem hll ⊢
 refine PCall_of (n := 39) Tryz.func14 rfl rfl (Nat.le_of_ble_eq_true rfl) fun C hdm hT0 => ?_
 have hT := hT0
 refine Zs fun _ hK1 => ?_
 refine AL_box (Lay.st [.one, .one]) (nf rfl) rfl (by rfl) _ rfl rfl ?_
 refine Za ?_
 refine Zn hK1 ?_
 refine Zs fun _ hK2 => ?_
 refine AL_bD .one rfl te25 ts9 tz9 rfl rfl (by decide) (by decide) (by rfl) rfl ?_
 refine Za ?_
 refine Zn hK2 ?_
 refine Zs fun _ hK3 => ?_
 refine YL ts27 ta27 ?_
 refine Zm ?_
 refine AL_fcall0 hT rfl cl51 (hxs ▸ c_specClausesOf d p (by omega)) rfl rfl ?_
 refine Za ?_
 refine Zn hK3 ?_
 refine AC_seq fun _ hK4 => ?_
 refine Zs fun _ hK5 => ?_
 refine Za ?_
 refine Zn hK5 ?_
 refine AC_block ?_
 refine AC_loopS [6] (Nat × List ByteArray) (fun ⟨j, out⟩ => [(7, i64 j), (5, .d (.sl .one (strs out)))]) (fun ⟨j, out⟩ => []) (fun st => xs.length - st.1) (fun ⟨j, out⟩ => j ≤ xs.length ∧ (callsL xs [] = callsL (xs.drop j) out ∧ out.length + wC (xs.drop j) ≤ 2097152)) ((0, [])) ?_ ?_ ?_
 ·exact enterS [] rfl rfl BxTo_nil Sl_
 ·exact ⟨Nat.zero_le _, by simp, by simp; omega⟩
 rintro ⟨j, out⟩ ⟨hj, ⟨hI, ho⟩⟩
 show AC _ _ _ _ _ (FS [6] _ [(7, i64 j), (5, .d (.sl .one (strs out)))]) []
 refine AC_seq fun _ hK6 => ?_
 refine Zs fun _ hK7 => ?_
 iterate 2 refine Zm ?_
 refine AL_lim (x := (Operand.tmp 15)) rfl fun hl1 => ?_
 try simp only [injs_length, ints_length, strs_length, injCs_length, u8s_length, List.length_map] at hl1
 refine Ze (Ev_len_injCs te24 rfl) ?_
 refine Ze (Ev_lss rfl rfl) ?_
 refine Zn hK7 ?_
 refine Zc (fun hc1 => ?_) fun hc1 => ?_
 ·have hlt : j < xs.length := by simpa using hc1
  obtain ⟨u, hu⟩ : ∃ x, xs[j]? = some x := ⟨_, List.getElem?_eq_getElem hlt⟩
  have hu2 := injCs_get hu
  have hdr := drop_get hu
  obtain ⟨_, hbu, _⟩ := hmem u (List.mem_of_getElem? hu)
  rw [hdr] at hI ho
  rw [callsL] at hI
  rw [wC] at ho
  refine Zk hK6 ?_
  refine AC_seq fun _ hK8 => ?_
  refine AC_block ?_
  refine Zs fun _ hK9 => ?_
  iterate 2 refine Zm ?_
  refine Yi te24 ts54 ?_
  refine Yr fa54_1 ?_
  refine YP ts41 ta41 ?_
  refine AL_fcall0 hT rfl cl28 (c_specCallsIn u.b (by omega)) rfl rfl ?_
  refine Za ?_
  refine Zn hK9 ?_
  refine Zs fun _ hK10 => ?_
  refine Za ?_
  refine Zn hK10 ?_
  refine AC_block ?_
  refine AC_loopS [6, 7, 8] (Nat × List ByteArray) (fun ⟨i, ou2⟩ => [(9, i64 i), (5, .d (.sl .one (strs ou2)))]) (fun ⟨i, ou2⟩ => []) (fun st => (callsIn u.b).length - st.1) (fun ⟨i, ou2⟩ => i ≤ (callsIn u.b).length ∧ (addAll out (callsIn u.b) = addAll ou2 ((callsIn u.b).drop i) ∧ ou2.length + ((callsIn u.b).drop i).length + wC (xs.drop (j + 1)) ≤ 2097152)) ((0, out)) ?_ ?_ ?_
  ·exact enterS [] rfl rfl BxTo_nil Sl_
  ·exact ⟨Nat.zero_le _, by simp, by simp; omega⟩
  rintro ⟨i, ou2⟩ ⟨hj, ⟨hI2, ho2⟩⟩
  show AC _ _ _ _ _ (FS [6, 7, 8] _ [(9, i64 i), (5, .d (.sl .one (strs ou2)))]) []
  refine AC_seq fun _ hK11 => ?_
  refine Zs fun _ hK12 => ?_
  iterate 2 refine Zm ?_
  refine AL_lim (x := (Operand.tmp 27)) rfl fun hl2 => ?_
  try simp only [injs_length, ints_length, strs_length, injCs_length, u8s_length, List.length_map] at hl2
  refine Ze (Ev_len_strs te25 rfl) ?_
  refine Ze (Ev_lss rfl rfl) ?_
  refine Zn hK12 ?_
  refine Zc (fun hc2 => ?_) fun hc2 => ?_
  ·have hlt : i < (callsIn u.b).length := by simpa using hc2
   obtain ⟨v, hu⟩ : ∃ x, (callsIn u.b)[i]? = some x := ⟨_, List.getElem?_eq_getElem hlt⟩
   have hu2 := strs_get hu
   have hdr := drop_get hu
   rw [hdr] at hI2 ho2
   rw [addAll] at hI2
   rw [List.length_cons] at ho2
   have hol := onceL_len ou2 v
   refine Zk hK11 ?_
   refine AC_seq fun _ hK13 => ?_
   refine AC_block ?_
   refine AC_region ?_
   iterate 3 refine Zm ?_
   refine Yi te25 ts9 ?_
   refine Yp ts9 ta9 ?_
   refine AL_fcall0 hT rfl cl41 (c_l23Add ou2 v (by omega)) rfl rfl ?_
   refine Za ?_
   refine Zn hK13 ?_
   refine AC_region ?_
   refine Zm ?_
   refine Ze (Ev_add rfl rfl _ (wrap_id (by omega) (by omega))) ?_
   refine Za ?_
   refine AL_nil ?_
   refine closeS (i + 1, onceL ou2 v) [] rfl rfl (by show (callsIn u.b).length - (i + 1) < (callsIn u.b).length - i; omega) ⟨hlt, ?_⟩ BxTo_nil Sl_
   exact ⟨hI2, by omega⟩
  ·have hj2 : i = (callsIn u.b).length := by
    have : ¬ i < (callsIn u.b).length := by simpa using hc2
    omega
   subst hj2
   refine Zx hK8 ?_
   refine AC_region ?_
   refine Zm ?_
   refine Ze (Ev_add rfl rfl _ (wrap_id (by omega) (by omega))) ?_
   refine Za ?_
   refine AL_nil ?_
   refine closeS (j + 1, ou2) [] rfl rfl (by show xs.length - (j + 1) < xs.length - j; omega) ⟨hlt, ?_⟩ BxTo_nil Sl_
   rw [List.drop_length, addAll] at hI2
   rw [List.drop_length] at ho2
   exact ⟨by rw [hI, hI2], by simp at ho2; omega⟩
 ·have hj2 : j = xs.length := by
   have : ¬ j < xs.length := by simpa using hc1
   omega
  subst hj2
  rw [List.drop_length] at hI
  refine Zx hK4 ?_
  refine Zs fun _ hK14 => ?_
  refine Zm ?_
  refine Za ?_
  refine Zn hK14 ?_
  refine AC_ret ?_
  refine Zr hdm ?_
  rw [callsL] at hI
  rw [hI]
end Go.Proofs.YtjgliechbnommaaGreatDoor
set_option linter.unusedVariables false
set_option linter.unusedSimpArgs false
namespace Go.Proofs.YtjgliechbnommaaGreatDoor
open Go.Eng
theorem cl14 : Callable Tryz.prog 14 := Zq Tryz.func14
set_option maxHeartbeats 1000000 in
set_option maxRecDepth 4000 in
theorem c_specReachedFrom (d : Dbt) (p : ByteArray) (hb : bulkD d ≤ 1048576) : PCall Tryz.prog 30 [injD d, .c (.string p)] (· = [.sl .one (strs (reachedFrom d p))]) := by
 have hw := wC_bulk d.cs
 obtain ⟨hnc, hbc, hno, hbo⟩ := bulkD_bd (cs := d.cs) (op := d.op) hb
 have hst := OkR.start d p
 refine PCall_of (n := 37) Tryz.func30 rfl rfl (Nat.le_of_ble_eq_true rfl) fun C hdm hT0 => ?_
 have hT := hT0
 refine Zs fun _ hK1 => ?_
 refine AL_box (Lay.st [.one, .one]) (nf rfl) rfl (by rfl) _ rfl rfl ?_
 refine Za ?_
 refine Zn hK1 ?_
 refine Zs fun _ hK2 => ?_
 refine YL ts27 ta27 ?_
 refine Zm ?_
 refine AL_fcall0 hT rfl cl14 (c_specCallsOf d p hb) rfl rfl ?_
 refine Za ?_
 refine Zn hK2 ?_
 refine AC_seq fun _ hK3 => ?_
 refine Zs fun _ hK4 => ?_
 refine Za ?_
 refine Zn hK4 ?_
 refine AC_block ?_
 refine AC_loopS [] (Nat × List ByteArray) (fun ⟨i, out⟩ => [(6, i64 i), (5, .d (.sl .one (strs out))), (2, .d (.rp (Lay.st [.one, .one]) (injD d) []))]) (fun ⟨i, out⟩ => []) (fun st => wC d.cs + 1 - st.1) (fun ⟨i, out⟩ => (reachedFrom d p = reachG d (wC d.cs - i) i out ∧ OkR d out ∧ i ≤ out.length)) ((0, callsOf d p)) ?_ ?_ ?_
 ·exact enterS [] rfl rfl BxTo_nil Sl_
 ·exact ⟨rfl, hst, Nat.zero_le _⟩
 rintro ⟨i, out⟩ ⟨hI, hK, hi⟩
 show AC _ _ _ _ _ (FS [] _ [(6, i64 i), (5, .d (.sl .one (strs out))), (2, .d (.rp (Lay.st [.one, .one]) (injD d) []))]) []
 have hKl := hK.len
 refine AC_seq fun _ hK5 => ?_
 refine Zs fun _ hK6 => ?_
 iterate 2 refine Zm ?_
 refine AL_lim (x := (Operand.tmp 13)) rfl fun hl1 => ?_
 try simp only [injs_length, ints_length, strs_length, injCs_length, u8s_length, List.length_map] at hl1
 refine Ze (Ev_len_strs te25 rfl) ?_
 refine Ze (Ev_lss rfl rfl) ?_
 refine Zn hK6 ?_
 refine Zc (fun hc1 => ?_) fun hc1 => ?_
 ·have hlt0 : i < out.length := by simpa using hc1
  have hcu := fun u => callsOf_len d u
  obtain ⟨u, hou⟩ : ∃ u, out[i]? = some u := ⟨_, List.getElem?_eq_getElem hlt0⟩
  have hu2 := strs_get hou
  have hcu := hcu u
  have hes : ((strs out).map V.d)[0 + ((i : Nat) : Int).toNat]? = some (.d (.c (.string u))) := by rw [Int.toNat_natCast, Nat.zero_add, List.getElem?_map, hu2]; rfl
  refine Zk hK5 ?_
  refine AC_seq fun _ hK7 => ?_
  refine AC_block ?_
  refine AC_seq fun _ hK8 => ?_
  refine AC_draw hT follows [0, 1, 2, 3, 4, 5, 6] (by kernel_rfl) ?_
  refine DT_ev rfl (EA_load_rp rfl rfl rfl ts27 ta27 (by rfl) (by intro h; cases h)) rfl ?_
  refine DT_ev rfl (EA_move) rfl ?_
  refine DT_ev rfl (EA_move) rfl ?_
  refine DT_ev rfl (EA_ix_sl rfl rfl te25 ts9 (by omega) (by assumption)) rfl ?_
  refine DT_ev rfl (EA_load_rp rfl rfl rfl ts9 ta9 rfl (fun _ => rfl)) rfl ?_
  refine DT_fcall0 rfl rfl cl14 (c_specCallsOf d u hb) rfl rfl ?_
  refine DT_ev rfl (EA_assign) rfl ?_
  refine Zd hK8 ?_
  refine Zs fun _ hK9 => ?_
  refine Za ?_
  refine Zn hK9 ?_
  refine AC_block ?_
  refine AC_loopS [2, 6, 7] (Nat × List ByteArray) (fun ⟨j, ou2⟩ => [(8, i64 j), (5, .d (.sl .one (strs ou2)))]) (fun ⟨j, ou2⟩ => []) (fun st => (callsOf d u).length - st.1) (fun ⟨j, ou2⟩ => j ≤ (callsOf d u).length ∧ (addAll out (callsOf d u) = addAll ou2 ((callsOf d u).drop j) ∧ OkR d ou2 ∧ out.length ≤ ou2.length)) ((0, out)) ?_ ?_ ?_
  ·exact enterS [] rfl rfl BxTo_nil Sl_
  ·exact ⟨Nat.zero_le _, by simp, hK, Nat.le_refl _⟩
  rintro ⟨j, ou2⟩ ⟨hj, ⟨hI2, hK2, ho2⟩⟩
  show AC _ _ _ _ _ (FS [2, 6, 7] _ [(8, i64 j), (5, .d (.sl .one (strs ou2)))]) []
  refine AC_seq fun _ hK10 => ?_
  refine Zs fun _ hK11 => ?_
  iterate 2 refine Zm ?_
  refine AL_lim (x := (Operand.tmp 25)) rfl fun hl2 => ?_
  try simp only [injs_length, ints_length, strs_length, injCs_length, u8s_length, List.length_map] at hl2
  refine Ze (Ev_len_strs te25 rfl) ?_
  refine Ze (Ev_lss rfl rfl) ?_
  refine Zn hK11 ?_
  refine Zc (fun hc2 => ?_) fun hc2 => ?_
  ·have hlt : j < (callsOf d u).length := by simpa using hc2
   obtain ⟨v, hu⟩ : ∃ x, (callsOf d u)[j]? = some x := ⟨_, List.getElem?_eq_getElem hlt⟩
   have hu2 := strs_get hu
   have hdr := drop_get hu
   rw [hdr] at hI2
   rw [addAll] at hI2
   have hKl2 := hK2.len
   have hol : ou2.length ≤ (onceL ou2 v).length := by unfold onceL; split <;> simp
   refine Zk hK10 ?_
   refine AC_seq fun _ hK12 => ?_
   refine AC_block ?_
   refine AC_region ?_
   iterate 3 refine Zm ?_
   refine Yi te25 ts9 ?_
   refine Yp ts9 ta9 ?_
   refine AL_fcall0 hT rfl cl41 (c_l23Add ou2 v (by omega)) rfl rfl ?_
   refine Za ?_
   refine Zn hK12 ?_
   refine AC_region ?_
   refine Zm ?_
   refine Ze (Ev_add rfl rfl _ (wrap_id (by omega) (by omega))) ?_
   refine Za ?_
   refine AL_nil ?_
   refine closeS (j + 1, onceL ou2 v) [] rfl rfl (by show (callsOf d u).length - (j + 1) < (callsOf d u).length - j; omega) ⟨hlt, ?_⟩ BxTo_nil Sl_
   exact ⟨hI2, hK2.once (callsOf_sub (List.mem_of_getElem? hu)), by omega⟩
  ·have hj2 : j = (callsOf d u).length := by
    have : ¬ j < (callsOf d u).length := by simpa using hc2
    omega
   subst hj2
   refine Zx hK7 ?_
   refine AC_region ?_
   refine Zm ?_
   refine Ze (Ev_add rfl rfl _ (wrap_id (by omega) (by omega))) ?_
   refine Za ?_
   refine AL_nil ?_
   refine closeS (i + 1, ou2) [] rfl rfl (by show wC d.cs + 1 - (i + 1) < wC d.cs + 1 - i; omega) ?_ BxTo_nil Sl_
   rw [List.drop_length, addAll] at hI2
   exact ⟨by rw [hI, reachG_step hK hou, hI2], hK2, by omega⟩
 ·have hend : reachedFrom d p = out := hI.trans (reachG_end (by simpa using hc1))
  refine Zx hK3 ?_
  refine Zs fun _ hK13 => ?_
  refine Zm ?_
  refine Za ?_
  refine Zn hK13 ?_
  refine AC_ret ?_
  refine Zr hdm ?_
  rw [hend]
end Go.Proofs.YtjgliechbnommaaGreatDoor
set_option linter.unusedVariables false
set_option linter.unusedSimpArgs false
namespace Go.Proofs.YtjgliechbnommaaGreatDoor
open Go.Eng
theorem cl30 : Callable Tryz.prog 30 := Zq Tryz.func30
set_option maxHeartbeats 1000000 in
set_option maxRecDepth 4000 in
theorem c_specRecursive (d : Dbt) (p : ByteArray) (hb : bulkD d ≤ 1048576) : PCall Tryz.prog 12 [injD d, .c (.string p)] (· = [.c (.bool (hasS (reachedFrom d p) p))]) := by
 refine PCall_of (n := 10) Tryz.func12 rfl rfl (Nat.le_of_ble_eq_true rfl) fun C hdm hT0 => ?_
 have hT := hT0
 refine Zs fun _ hK1 => ?_
 refine AL_box (Lay.st [.one, .one]) (nf rfl) rfl (by rfl) _ rfl rfl ?_
 refine Za ?_
 refine Zn hK1 ?_
 refine Zs fun _ hK2 => ?_
 refine YL ts27 ta27 ?_
 refine Zm ?_
 refine AL_fcall0 hT rfl cl30 (c_specReachedFrom d p hb) rfl rfl ?_
 refine Zm ?_
 refine AL_fcall0 hT rfl cl50 (c_l23Has (reachedFrom d p) p) rfl rfl ?_
 refine Za ?_
 refine Zn hK2 ?_
 refine AC_ret ?_
 exact Zr hdm rfl
end Go.Proofs.YtjgliechbnommaaGreatDoor
set_option linter.unusedVariables false
set_option linter.unusedSimpArgs false
namespace Go.Proofs.YtjgliechbnommaaGreatDoor
open Go.Eng
theorem cl142 : Callable Tryz.prog 142 := Zq Tryz.func142
theorem cl164 : Callable Tryz.prog 164 := Zq Tryz.func164
theorem fa27_1 : tyField Tryz.prog 27 1 = some (1, true) := by kernel_rfl
theorem ta25 : tyAgg Tryz.prog 25 = some false := by kernel_rfl
theorem ts25 : tySize Tryz.prog 25 = some 1 := by kernel_rfl
set_option maxHeartbeats 1000000 in
set_option maxRecDepth 4000 in
theorem c_l08Head (t : T) (hb : bulk t ≤ 1099511627776) : PCall Tryz.prog 142 [inj t] (· = [.c (.bool (headB t))]) := by
 refine PCall_of (n := 13) Tryz.func142 rfl rfl (Nat.le_of_ble_eq_true rfl) fun C hdm hT0 => ?_
 have hT := hT0
 refine Zs fun _ hK1 => ?_
 refine AL_box (Lay.st [.one, .one, .one, .one]) (nf rfl) rfl (by simp [Lay.len, Lay.lens]) _ rfl rfl ?_
 refine Za ?_
 refine Zn hK1 ?_
 refine Zs fun _ hK2 => ?_
 refine YL ts41 ta41 ?_
 refine AL_fcall0 hT rfl cl34 (c_specPredOf t hb) rfl rfl ?_
 refine Za ?_
 refine Zn hK2 ?_
 refine Zs fun _ hK3 => ?_
 refine Zm ?_
 refine Ze (Ev_sneq rfl rfl) ?_
 refine Zm ?_
 refine Zb 8 (fun hg1 => ?_) fun hg1 => ?_
 ·refine Zt ?_
  refine Zm ?_
  refine Zt ?_
  refine AL_fcall0 hT rfl cl98 (c_specControl (predS t)) rfl rfl ?_
  refine Zt ?_
  refine Ze (Ev_not rfl) ?_
  refine Zp ?_
  refine Za ?_
  refine Zn hK3 ?_
  refine AC_ret ?_
  refine Zr hdm ?_
  simp_all [headB]
 ·iterate 3 refine Zg ?_
  refine Zp ?_
  refine Za ?_
  refine Zn hK3 ?_
  refine AC_ret ?_
  refine Zr hdm ?_
  simp_all [headB]
set_option maxHeartbeats 1000000 in
set_option maxRecDepth 4000 in
theorem c_l08Clause (c : Cl) (h1 : bulk c.h ≤ 1099511627776) (h2 : bulk c.b ≤ 1099511627776) : PCall Tryz.prog 164 [injC c] (· = [.c (.bool (clB c))]) := by
 obtain ⟨h, b, f⟩ := c
 refine PCall_of (n := 16) Tryz.func164 rfl rfl (Nat.le_of_ble_eq_true rfl) fun C hdm hT0 => ?_
 have hT := hT0
 refine Zs fun _ hK1 => ?_
 refine AL_box (Lay.st [(Lay.st [.one, .one, .one, .one]), (Lay.st [.one, .one, .one, .one]), .one]) (nf rfl) rfl (by rfl) _ rfl rfl ?_
 refine Za ?_
 refine Zn hK1 ?_
 refine Zs fun _ hK2 => ?_
 refine Ya fa54_0 ?_
 refine YL ts41 ta41 ?_
 refine AL_fcall0 hT rfl cl64 (c_specTermOk h h1) rfl rfl ?_
 refine Zm ?_
 refine Zb 6 (fun hg1 => ?_) fun hg1 => ?_
 ·refine Zt ?_
  refine Ya fa54_1 ?_
  refine Zt ?_
  refine YL ts41 ta41 ?_
  refine Zt ?_
  refine AL_fcall0 hT rfl cl64 (c_specTermOk b h2) rfl rfl ?_
  refine Zp ?_
  refine Zm ?_
  refine Zb 11 (fun hg2 => ?_) fun hg2 => ?_
  ·refine Zt ?_
   refine Ya fa54_0 ?_
   refine Zt ?_
   refine YL ts41 ta41 ?_
   refine Zt ?_
   refine AL_fcall0 hT rfl cl142 (c_l08Head h h1) rfl rfl ?_
   refine Zp ?_
   refine Za ?_
   refine Zn hK2 ?_
   refine AC_ret ?_
   refine Zr hdm ?_
   simp_all [clB]
  ·iterate 3 refine Zg ?_
   refine Zp ?_
   refine Za ?_
   refine Zn hK2 ?_
   refine AC_ret ?_
   refine Zr hdm ?_
   simp_all [clB]
 ·iterate 3 refine Zg ?_
  refine Zp ?_
  refine Zm ?_
  iterate 3 refine Zg ?_
  refine Zp ?_
  refine Za ?_
  refine Zn hK2 ?_
  refine AC_ret ?_
  refine Zr hdm ?_
  simp_all [clB]
set_option maxHeartbeats 1000000 in
set_option maxRecDepth 4000 in
theorem c_specDbOk (d : Dbt) (hb : bulkD d ≤ 1099511627775) : PCall Tryz.prog 144 [injD d] (· = [.c (.bool (dbB d))]) := by
 obtain ⟨cs, op⟩ := d
 obtain ⟨hnc, hbc, hno, hbo⟩ := bulkD_bd hb
 refine PCall_of (n := 28) Tryz.func144 rfl rfl (Nat.le_of_ble_eq_true rfl) fun C hdm hT0 => ?_
 have hT := hT0
 refine Zs fun _ hK1 => ?_
 refine AL_box (Lay.st [.one, .one]) (nf rfl) rfl (by rfl) _ rfl rfl ?_
 refine Za ?_
 refine Zn hK1 ?_
 refine AC_seq fun _ hK2 => ?_
 refine Zs fun _ hK3 => ?_
 refine Za ?_
 refine Zn hK3 ?_
 refine AC_block ?_
 refine AC_loopS [] (Nat) (fun j => [(3, i64 j), (1, .d (.rp (Lay.st [.one, .one]) (injD ⟨cs, op⟩) []))]) (fun j => []) (fun st => cs.length - st) (fun j => j ≤ cs.length ∧ cs.all clB = (cs.drop j).all clB) (0) ?_ ?_ ?_
 ·exact enterS [] rfl rfl BxTo_nil Sl_
 ·exact ⟨Nat.zero_le _, by simp⟩
 rintro j ⟨hj, hI⟩
 show AC _ _ _ _ _ (FS [] _ [(3, i64 j), (1, .d (.rp (Lay.st [.one, .one]) (injD ⟨cs, op⟩) []))]) []
 refine AC_seq fun _ hK4 => ?_
 refine Zs fun _ hK5 => ?_
 refine Zm ?_
 refine Yr fa27_0 ?_
 refine Yp ts24 ta24 ?_
 refine AL_lim (x := (Operand.tmp 6)) rfl fun hl1 => ?_
 try simp only [injs_length, ints_length, strs_length, injCs_length, u8s_length, List.length_map] at hl1
 refine Ze (Ev_len_injCs te24 rfl) ?_
 refine Ze (Ev_lss rfl rfl) ?_
 refine Zn hK5 ?_
 refine Zc (fun hc1 => ?_) fun hc1 => ?_
 ·have hlt : j < cs.length := by simpa using hc1
  obtain ⟨u, hu⟩ : ∃ x, cs[j]? = some x := ⟨_, List.getElem?_eq_getElem hlt⟩
  have hu2 := injCs_get hu
  have hdr := drop_get hu
  obtain ⟨hbu, hbv, _⟩ := bulkCs_bd (List.mem_of_getElem? hu) hbc
  refine Zk hK4 ?_
  refine AC_seq fun _ hK6 => ?_
  refine AC_block ?_
  refine Zs fun _ hK7 => ?_
  refine Yr fa27_0 ?_
  refine Yp ts24 ta24 ?_
  refine Zm ?_
  refine Yi te24 ts54 ?_
  refine YP ts54 ta54 ?_
  refine AL_fcall0 hT rfl cl164 (c_l08Clause u (by omega) (by omega)) rfl rfl ?_
  refine Ze (Ev_not rfl) ?_
  refine Zn hK7 ?_
  refine Zc (fun hc2 => ?_) fun hc2 => ?_
  ·refine Zs fun _ hK8 => ?_
   refine Za ?_
   refine Zn hK8 ?_
   refine AC_ret ?_
   refine Zr hdm ?_
   rw [dbB]
   try rw [hI]
   try rw [hdr]
   simp_all
  ·refine Zk hK6 ?_
   refine AC_region ?_
   refine Zm ?_
   refine Ze (Ev_add rfl rfl _ (wrap_id (by omega) (by omega))) ?_
   refine Za ?_
   refine AL_nil ?_
   refine closeS (j + 1) [] rfl rfl (by show cs.length - (j + 1) < cs.length - j; omega) ⟨hlt, ?_⟩ BxTo_nil Sl_
   rw [hI, hdr, List.all_cons]
   simp_all
 ·have hj2 : j = cs.length := by
   have : ¬ j < cs.length := by simpa using hc1
   omega
  subst hj2
  rw [List.drop_length] at hI
  refine Zx hK2 ?_
  refine Zs fun _ hK9 => ?_
  refine Yr fa27_0 ?_
  refine Yp ts24 ta24 ?_
  refine AL_lim (x := (Operand.tmp 19)) rfl fun hl2 => ?_
  try simp only [injs_length, ints_length, strs_length, injCs_length, u8s_length, List.length_map] at hl2
  refine Ze (Ev_len_injCs te24 rfl) ?_
  refine Ze (Ev_leq rfl rfl) ?_
  refine Zm ?_
  refine Zb 22 (fun hg3 => ?_) fun hg3 => ?_
  ·refine Zt ?_
   refine Yr fa27_1 ?_
   refine Zt ?_
   refine Yp ts25 ta25 ?_
   refine Zt ?_
   refine AL_lim (x := (Operand.tmp 24)) rfl fun hl3 => ?_
   try simp only [injs_length, ints_length, strs_length, injCs_length, u8s_length, List.length_map] at hl3
   refine Ze (Ev_len_strs te25 rfl) ?_
   refine Zt ?_
   refine Ze (Ev_leq rfl rfl) ?_
   refine Zp ?_
   refine Za ?_
   refine Zn hK9 ?_
   refine AC_ret ?_
   refine Zr hdm ?_
   rw [dbB]
   try rw [hI]
   simp_all
  ·iterate 4 refine Zg ?_
   refine Zp ?_
   refine Za ?_
   refine Zn hK9 ?_
   refine AC_ret ?_
   refine Zr hdm ?_
   rw [dbB]
   try rw [hI]
   simp_all
   try omega
end Go.Proofs.YtjgliechbnommaaGreatDoor
set_option linter.unusedVariables false
set_option linter.unusedSimpArgs false
namespace Go.Proofs.YtjgliechbnommaaGreatDoor
open Go.Eng
theorem tz25 : tyZero Tryz.prog 25 = some (some (.slice none 0 0)) := by kernel_rfl
theorem tz3 : tyZero Tryz.prog 3 = some (some (.int .i64 0)) := by kernel_rfl
theorem tz30 : tyZero Tryz.prog 30 = some (some (.slice none 0 0)) := by kernel_rfl
theorem tz4 : tyZero Tryz.prog 4 = some (some (.bool false)) := by kernel_rfl
theorem cl16 : Callable Tryz.prog 16 := Zq Tryz.func16
theorem cl42 : Callable Tryz.prog 42 := Zq Tryz.func42
theorem cl46 : Callable Tryz.prog 46 := Zq Tryz.func46
theorem cl47 : Callable Tryz.prog 47 := Zq Tryz.func47
theorem cl48 : Callable Tryz.prog 48 := Zq Tryz.func48
theorem cl49 : Callable Tryz.prog 49 := Zq Tryz.func49
theorem cl88 : Callable Tryz.prog 88 := Zq Tryz.func88
theorem cl9 : Callable Tryz.prog 9 := Zq Tryz.func9
theorem ta30 : tyAgg Tryz.prog 30 = some false := by kernel_rfl
theorem ta4 : tyAgg Tryz.prog 4 = some false := by kernel_rfl
theorem tb3 : tyBytes Tryz.prog 3 = some 8 := by kernel_rfl
theorem tbool4 : tyBool Tryz.prog 4 = true := by kernel_rfl
theorem te30 : tyElem Tryz.prog 30 = some 3 := by kernel_rfl
theorem ts30 : tySize Tryz.prog 30 = some 1 := by kernel_rfl
theorem ts4 : tySize Tryz.prog 4 = some 1 := by kernel_rfl
theorem zo25 : ZeroOf Tryz.prog 25 .one (.d (.c (.slice none 0 0))) := ⟨_, tz25, rfl, fun _ _ _ => VC_cells rfl⟩
theorem zo3 : ZeroOf Tryz.prog 3 .one (.d (.c (.int .i64 0))) := ⟨_, tz3, rfl, fun _ _ _ => VC_cells rfl⟩
theorem zo30 : ZeroOf Tryz.prog 30 .one (.d (.c (.slice none 0 0))) := ⟨_, tz30, rfl, fun _ _ _ => VC_cells rfl⟩
theorem zo4 : ZeroOf Tryz.prog 4 .one (.d (.c (.bool false))) := ⟨_, tz4, rfl, fun _ _ _ => VC_cells rfl⟩
set_option maxHeartbeats 1000000 in
set_option maxRecDepth 4000 in
theorem c_l23At (xs : List ByteArray) (s : ByteArray) : PCall Tryz.prog 49 [.sl .one (strs xs), .c (.string s)] (· = [.c (.int .i64 (idxS xs s 0))]) := by
 refine PCall_of (n := 19) Tryz.func49 rfl rfl (Nat.le_of_ble_eq_true rfl) fun C hdm hT0 => ?_
 have hT := hT0
 refine Zs fun _ hK1 => ?_
 refine Za ?_
 refine Zn hK1 ?_
 refine AC_seq fun _ hK2 => ?_
 refine Zs fun _ hK3 => ?_
 refine Za ?_
 refine Zn hK3 ?_
 refine AC_block ?_
 refine AC_loopS [0, 1] (Nat) (fun j => [(5, i64 j)]) (fun j => []) (fun st => xs.length - st) (fun j => j ≤ xs.length ∧ idxS xs s 0 = idxS (xs.drop j) s j) (0) ?_ ?_ ?_
 ·exact enterS [] rfl rfl BxTo_nil Sl_
 ·exact ⟨Nat.zero_le _, by simp⟩
 rintro j ⟨hj, hI⟩
 show AC _ _ _ _ _ (FS [0, 1] _ [(5, i64 j)]) []
 refine AC_seq fun _ hK4 => ?_
 refine Zs fun _ hK5 => ?_
 iterate 2 refine Zm ?_
 refine AL_lim (x := (Operand.tmp 7)) rfl fun hl1 => ?_
 try simp only [injs_length, ints_length, strs_length, injCs_length, u8s_length, List.length_map] at hl1
 refine Ze (Ev_len_strs te25 rfl) ?_
 refine Ze (Ev_lss rfl rfl) ?_
 refine Zn hK5 ?_
 refine Zc (fun hc1 => ?_) fun hc1 => ?_
 ·have hlt : j < xs.length := by simpa using hc1
  obtain ⟨u, hu⟩ : ∃ x, xs[j]? = some x := ⟨_, List.getElem?_eq_getElem hlt⟩
  have hu2 := strs_get hu
  have hdr := drop_get hu
  refine Zk hK4 ?_
  refine AC_seq fun _ hK6 => ?_
  refine AC_block ?_
  refine Zs fun _ hK7 => ?_
  iterate 2 refine Zm ?_
  refine Yi te25 ts9 ?_
  refine Yp ts9 ta9 ?_
  refine Zm ?_
  refine Ze (Ev_seql rfl rfl) ?_
  refine Zn hK7 ?_
  refine Zc (fun hc2 => ?_) fun hc2 => ?_
  ·refine Zs fun _ hK8 => ?_
   refine Zm ?_
   refine Za ?_
   refine Zn hK8 ?_
   refine AC_ret ?_
   refine Zr hdm ?_
   try rw [hI]
   try rw [hdr]
   try simp_all [List.length_pos_iff, idxS]
  ·refine Zk hK6 ?_
   refine AC_region ?_
   refine Zm ?_
   refine Ze (Ev_add rfl rfl _ (wrap_id (by omega) (by omega))) ?_
   refine Za ?_
   refine AL_nil ?_
   refine closeS (j + 1) [] rfl rfl (by show xs.length - (j + 1) < xs.length - j; omega) ⟨hlt, ?_⟩ BxTo_nil Sl_
   rw [hI]
   try rw [hdr]
   try simp_all [idxS]
 ·have hj2 : j = xs.length := by
   have : ¬ j < xs.length := by simpa using hc1
   omega
  subst hj2
  rw [List.drop_length] at hI
  refine Zx hK2 ?_
  refine Zs fun _ hK9 => ?_
  refine Za ?_
  refine Zn hK9 ?_
  refine AC_ret ?_
  refine Zr hdm ?_
  try rw [hI]
  try simp_all [List.length_pos_iff, idxS]
set_option maxHeartbeats 1000000 in
set_option maxRecDepth 4000 in
theorem c_l23Walk (t : T) : ∀ (neg want : Bool) (out : List ByteArray), bulk t ≤ 1099511627776 → out.length + sz t ≤ 1099511627776 → PCall Tryz.prog 88 [inj t, .c (.bool neg), .c (.bool want), .sl .one (strs out)] (· = [.sl .one (strs (eachF (stepW want) t neg out))]) := by
 induction t using T.ind with | h k s m ks ih => ?_
 intro neg want out hb hl
 refine PCall_of (n := 85) Tryz.func88 rfl rfl (Nat.le_of_ble_eq_true rfl) fun C hdm hT0 => ?_
 have hT := hT0
 refine Zs fun _ hK1 => ?_
 refine AL_box (Lay.st [.one, .one, .one, .one]) (nf rfl) rfl (by rfl) _ rfl rfl ?_
 refine Za ?_
 refine Zn hK1 ?_
 refine Zs fun _ hK2 => ?_
 refine YL ts41 ta41 ?_
 refine AL_fcall0 hT rfl cl34 (c_specPredOf _ hb) rfl rfl ?_
 refine Za ?_
 refine Zn hK2 ?_
 refine AC_seq fun _ hK3 => ?_
 refine Zs fun _ hK4 => ?_
 refine Zm ?_
 refine Zn hK4 ?_
 refine AC_block ?_
 refine AC_seq fun _ hK5 => ?_
 refine Zs fun _ hK6 => ?_
 refine Ze (Ev_seql rfl rfl) ?_
 refine Za ?_
 refine Zn hK6 ?_
 refine Zc (fun hc1 => ?_) fun hc1 => ?_
 ·have hp0 := of_decide_eq_true hc1
  obtain ⟨x, y, rfl⟩ := len2 (show ks.length = 2 from predS_kids [44] 2 (by omega) rfl hp0)
  have hp : predS (.mk k s m [x, y]) = cComma ∨ predS (.mk k s m [x, y]) = cSemi ∨ predS (.mk k s m [x, y]) = cArrow := .inl hp0
  have hu0 : (injs [x, y])[(0 : Int).toNat]? = some (inj x) := rfl
  have hu1 : (injs [x, y])[(1 : Int).toNat]? = some (inj y) := rfl
  simp only [sz, szs] at hl
  have hle := eachF_le (μ := fun a : List ByteArray => (a.length : Int)) (stepW_le want) x neg out
  refine Zk hK5 ?_
  refine AC_cond_t (congrArg bl hc1) ?_
  refine Zs fun _ hK7 => ?_
  refine Ya fa41_3 ?_
  refine Yl ts39 ta39 ?_
  refine Yi te39 ts41 ?_
  refine YP ts41 ta41 ?_
  iterate 3 refine Zm ?_
  refine AL_fcall0 hT rfl cl88 (ih x (by simp) neg want (out) (bulk_mem hb x (by simp)) (by omega)) rfl rfl ?_
  refine Za ?_
  refine Zn hK7 ?_
  refine Zs fun _ hK8 => ?_
  refine Ya fa41_3 ?_
  refine Yl ts39 ta39 ?_
  refine Yi te39 ts41 ?_
  refine YP ts41 ta41 ?_
  iterate 3 refine Zm ?_
  refine AL_fcall0 hT rfl cl88 (ih y (by simp) neg want (eachF (stepW want) x neg out) (bulk_mem hb y (by simp)) (by omega)) rfl rfl ?_
  refine Za ?_
  refine Zn hK8 ?_
  refine AC_ret ?_
  refine Zr hdm ?_
  exact congrArg (fun l => [D.sl .one (strs l)]) (eachF_two hp).symm
 ·refine Zs fun _ hK9 => ?_
  refine Ze (Ev_seql rfl rfl) ?_
  refine Za ?_
  refine Zn hK9 ?_
  refine Zc (fun hc2 => ?_) fun hc2 => ?_
  ·have hp0 := of_decide_eq_true hc2
   obtain ⟨x, y, rfl⟩ := len2 (show ks.length = 2 from predS_kids [59] 2 (by omega) rfl hp0)
   have hp : predS (.mk k s m [x, y]) = cComma ∨ predS (.mk k s m [x, y]) = cSemi ∨ predS (.mk k s m [x, y]) = cArrow := .inr (.inl hp0)
   have hu0 : (injs [x, y])[(0 : Int).toNat]? = some (inj x) := rfl
   have hu1 : (injs [x, y])[(1 : Int).toNat]? = some (inj y) := rfl
   simp only [sz, szs] at hl
   have hle := eachF_le (μ := fun a : List ByteArray => (a.length : Int)) (stepW_le want) x neg out
   refine Zk hK5 ?_
   refine AC_cond_t (congrArg bl hc2) ?_
   refine Zs fun _ hK10 => ?_
   refine Ya fa41_3 ?_
   refine Yl ts39 ta39 ?_
   refine Yi te39 ts41 ?_
   refine YP ts41 ta41 ?_
   iterate 3 refine Zm ?_
   refine AL_fcall0 hT rfl cl88 (ih x (by simp) neg want (out) (bulk_mem hb x (by simp)) (by omega)) rfl rfl ?_
   refine Za ?_
   refine Zn hK10 ?_
   refine Zs fun _ hK11 => ?_
   refine Ya fa41_3 ?_
   refine Yl ts39 ta39 ?_
   refine Yi te39 ts41 ?_
   refine YP ts41 ta41 ?_
   iterate 3 refine Zm ?_
   refine AL_fcall0 hT rfl cl88 (ih y (by simp) neg want (eachF (stepW want) x neg out) (bulk_mem hb y (by simp)) (by omega)) rfl rfl ?_
   refine Za ?_
   refine Zn hK11 ?_
   refine AC_ret ?_
   refine Zr hdm ?_
   exact congrArg (fun l => [D.sl .one (strs l)]) (eachF_two hp).symm
  ·refine AC_region ?_
   refine Ze (Ev_seql rfl rfl) ?_
   refine Za ?_
   refine Zn hK5 ?_
   refine Zc (fun hc3 => ?_) fun hc3 => ?_
   ·have hp0 := of_decide_eq_true hc3
    obtain ⟨x, y, rfl⟩ := len2 (show ks.length = 2 from predS_kids [45, 62] 2 (by omega) rfl hp0)
    have hp : predS (.mk k s m [x, y]) = cComma ∨ predS (.mk k s m [x, y]) = cSemi ∨ predS (.mk k s m [x, y]) = cArrow := .inr (.inr hp0)
    have hu0 : (injs [x, y])[(0 : Int).toNat]? = some (inj x) := rfl
    have hu1 : (injs [x, y])[(1 : Int).toNat]? = some (inj y) := rfl
    simp only [sz, szs] at hl
    have hle := eachF_le (μ := fun a : List ByteArray => (a.length : Int)) (stepW_le want) x neg out
    refine Zs fun _ hK12 => ?_
    refine Ya fa41_3 ?_
    refine Yl ts39 ta39 ?_
    refine Yi te39 ts41 ?_
    refine YP ts41 ta41 ?_
    iterate 3 refine Zm ?_
    refine AL_fcall0 hT rfl cl88 (ih x (by simp) neg want (out) (bulk_mem hb x (by simp)) (by omega)) rfl rfl ?_
    refine Za ?_
    refine Zn hK12 ?_
    refine Zs fun _ hK13 => ?_
    refine Ya fa41_3 ?_
    refine Yl ts39 ta39 ?_
    refine Yi te39 ts41 ?_
    refine YP ts41 ta41 ?_
    iterate 3 refine Zm ?_
    refine AL_fcall0 hT rfl cl88 (ih y (by simp) neg want (eachF (stepW want) x neg out) (bulk_mem hb y (by simp)) (by omega)) rfl rfl ?_
    refine Za ?_
    refine Zn hK13 ?_
    refine AC_ret ?_
    refine Zr hdm ?_
    exact congrArg (fun l => [D.sl .one (strs l)]) (eachF_two hp).symm
   ·refine Zs fun _ hK14 => ?_
    refine Ze (Ev_seql rfl rfl) ?_
    refine Za ?_
    refine Zn hK14 ?_
    refine Zc (fun hc4 => ?_) fun hc4 => ?_
    ·have hp := of_decide_eq_true hc4
     obtain ⟨x, rfl⟩ := len1 (show ks.length = 1 from predS_kids [92, 43] 1 (by omega) rfl hp)
     have hu0 : (injs [x])[(0 : Int).toNat]? = some (inj x) := rfl
     simp only [sz, szs] at hl
     refine Zs fun _ hK15 => ?_
     refine Ya fa41_3 ?_
     refine Yl ts39 ta39 ?_
     refine Yi te39 ts41 ?_
     refine YP ts41 ta41 ?_
     iterate 2 refine Zm ?_
     refine AL_fcall0 hT rfl cl88 (ih x (by simp) true want (out) (bulk_mem hb x (by simp)) (by omega)) rfl rfl ?_
     refine Za ?_
     refine Zn hK15 ?_
     refine AC_ret ?_
     refine Zr hdm ?_
     exact congrArg (fun l => [D.sl .one (strs l)]) (eachF_not hp).symm
    ·refine Zs fun _ hK16 => ?_
     refine Ze (Ev_seql rfl rfl) ?_
     refine Za ?_
     refine Zn hK16 ?_
     refine Zc (fun hc5 => ?_) fun hc5 => ?_
     ·have hp := of_decide_eq_true hc5
      obtain ⟨x, rfl⟩ := len1 (show ks.length = 1 from predS_kids [99, 97, 108, 108] 1 (by omega) rfl hp)
      have hu0 : (injs [x])[(0 : Int).toNat]? = some (inj x) := rfl
      simp only [sz, szs] at hl
      refine Zs fun _ hK17 => ?_
      refine Ya fa41_3 ?_
      refine Yl ts39 ta39 ?_
      refine Yi te39 ts41 ?_
      refine YP ts41 ta41 ?_
      iterate 3 refine Zm ?_
      refine AL_fcall0 hT rfl cl88 (ih x (by simp) neg want (out) (bulk_mem hb x (by simp)) (by omega)) rfl rfl ?_
      refine Za ?_
      refine Zn hK17 ?_
      refine AC_ret ?_
      refine Zr hdm ?_
      exact congrArg (fun l => [D.sl .one (strs l)]) (eachF_call hp).symm
     ·refine Zs fun _ hK18 => ?_
      refine Ze (Ev_seql rfl rfl) ?_
      refine Za ?_
      refine Zn hK18 ?_
      refine Zc (fun hc6 => ?_) fun hc6 => ?_
      ·have hp := of_decide_eq_true hc6
       obtain ⟨x, y, z, rfl⟩ := len3 (show ks.length = 3 from predS_kids [99, 97, 116, 99, 104] 3 (by omega) rfl hp)
       have hu0 : (injs [x, y, z])[(0 : Int).toNat]? = some (inj x) := rfl
       have hu1 : (injs [x, y, z])[(2 : Int).toNat]? = some (inj z) := rfl
       simp only [sz, szs] at hl
       have hle := eachF_le (μ := fun a : List ByteArray => (a.length : Int)) (stepW_le want) x neg out
       refine Zs fun _ hK19 => ?_
       refine Ya fa41_3 ?_
       refine Yl ts39 ta39 ?_
       refine Yi te39 ts41 ?_
       refine YP ts41 ta41 ?_
       iterate 3 refine Zm ?_
       refine AL_fcall0 hT rfl cl88 (ih x (by simp) neg want (out) (bulk_mem hb x (by simp)) (by omega)) rfl rfl ?_
       refine Za ?_
       refine Zn hK19 ?_
       refine Zs fun _ hK20 => ?_
       refine Ya fa41_3 ?_
       refine Yl ts39 ta39 ?_
       refine Yi te39 ts41 ?_
       refine YP ts41 ta41 ?_
       iterate 3 refine Zm ?_
       refine AL_fcall0 hT rfl cl88 (ih z (by simp) neg want (eachF (stepW want) x neg out) (bulk_mem hb z (by simp)) (by omega)) rfl rfl ?_
       refine Za ?_
       refine Zn hK20 ?_
       refine AC_ret ?_
       refine Zr hdm ?_
       exact congrArg (fun l => [D.sl .one (strs l)]) (eachF_catch hp).symm
      ·refine Zk hK3 ?_
       refine AC_seq fun _ hK21 => ?_
       refine Zs fun _ hK22 => ?_
       refine Zm ?_
       refine Ze (Ev_seql rfl rfl) ?_
       refine Zm ?_
       refine Zb 72 (fun hg7 => ?_) fun hg7 => ?_
       ·iterate 2 refine Zg ?_
        refine Zp ?_
        refine Zm ?_
        iterate 3 refine Zg ?_
        refine Zp ?_
        refine Zn hK22 ?_
        refine AC_cond_t rfl ?_
        refine Zs fun _ hK23 => ?_
        refine Zm ?_
        refine Za ?_
        refine Zn hK23 ?_
        refine AC_ret ?_
        refine Zr hdm ?_
        exact congrArg (fun l => [D.sl .one (strs l)]) ((eachF_end hc1 hc2 hc3 hc4 hc5 hc6).trans (if_pos (by simp_all))).symm
       ·refine Zt ?_
        refine Zm ?_
        refine Zt ?_
        refine AL_fcall0 hT rfl cl98 (c_specControl (predS (.mk k s m ks))) rfl rfl ?_
        refine Zp ?_
        refine Zm ?_
        refine Zb 76 (fun hg8 => ?_) fun hg8 => ?_
        ·iterate 3 refine Zg ?_
         refine Zp ?_
         refine Zn hK22 ?_
         refine AC_cond_t rfl ?_
         refine Zs fun _ hK24 => ?_
         refine Zm ?_
         refine Za ?_
         refine Zn hK24 ?_
         refine AC_ret ?_
         refine Zr hdm ?_
         exact congrArg (fun l => [D.sl .one (strs l)]) ((eachF_end hc1 hc2 hc3 hc4 hc5 hc6).trans (if_pos (by simp_all))).symm
        ·refine Zt ?_
         refine Zm ?_
         refine Zt ?_
         refine Zm ?_
         refine Zt ?_
         refine Ze (Ev_bneq tbool4 rfl rfl) ?_
         refine Zp ?_
         refine Zn hK22 ?_
         refine Zc (fun hc9 => ?_) fun hc9 => ?_
         ·refine Zs fun _ hK25 => ?_
          refine Zm ?_
          refine Za ?_
          refine Zn hK25 ?_
          refine AC_ret ?_
          refine Zr hdm ?_
          exact congrArg (fun l => [D.sl .one (strs l)]) ((eachF_end hc1 hc2 hc3 hc4 hc5 hc6).trans ((if_neg (by simp_all)).trans (by unfold stepW; rw [if_neg (by simpa using hc9)]))).symm
         ·refine Zk hK21 ?_
          refine Zs fun _ hK26 => ?_
          iterate 2 refine Zm ?_
          refine AL_fcall0 hT rfl cl41 (c_l23Add out (predS (.mk k s m ks)) (by rw [sz] at hl; omega)) rfl rfl ?_
          refine Za ?_
          refine Zn hK26 ?_
          refine AC_ret ?_
          refine Zr hdm ?_
          exact congrArg (fun l => [D.sl .one (strs l)]) ((eachF_end hc1 hc2 hc3 hc4 hc5 hc6).trans ((if_neg (by simp_all)).trans (by unfold stepW; rw [if_pos (by simpa using hc9)]))).symm
set_option maxHeartbeats 1000000 in
set_option maxRecDepth 4000 in
theorem c_l23Denied (d : Dbt) (p : ByteArray) (want : Bool) (hb : bulkD d ≤ 1048576) : PCall Tryz.prog 48 [injD d, .c (.string p), .c (.bool want)] (· = [.sl .one (strs (deny d.cs p want))]) := by
 have hw := szB_bulk d.cs
 have hw2 := szB_clsOf d.cs p
 obtain ⟨hnc, hbc, hno, hbo⟩ := bulkD_bd (cs := d.cs) (op := d.op) hb
 have hmem := fun c (h : c ∈ clsOf d.cs p) => bulkCs_bd (clsOf_mem h) hbc
 have hll := clsOf_len d.cs p
 obtain ⟨xs, hxs⟩ : ∃ xs, xs = clsOf d.cs p := ⟨_, rfl⟩
 unfold deny
 rw [← hxs] at hw2 hmem hll ⊢
 refine PCall_of (n := 35) Tryz.func48 rfl rfl (Nat.le_of_ble_eq_true rfl) fun C hdm hT0 => ?_
 have hT := hT0
 refine Zs fun _ hK1 => ?_
 refine AL_box (Lay.st [.one, .one]) (nf rfl) rfl (by rfl) _ rfl rfl ?_
 refine Za ?_
 refine Zn hK1 ?_
 refine Zs fun _ hK2 => ?_
 refine AL_bD .one rfl te25 ts9 tz9 rfl rfl (by decide) (by decide) (by rfl) rfl ?_
 refine Za ?_
 refine Zn hK2 ?_
 refine Zs fun _ hK3 => ?_
 refine YL ts27 ta27 ?_
 refine Zm ?_
 refine AL_fcall0 hT rfl cl51 (hxs ▸ c_specClausesOf d p (by omega)) rfl rfl ?_
 refine Za ?_
 refine Zn hK3 ?_
 refine AC_seq fun _ hK4 => ?_
 refine Zs fun _ hK5 => ?_
 refine Za ?_
 refine Zn hK5 ?_
 refine AC_block ?_
 refine AC_loopS [2, 8] (Nat × List ByteArray) (fun ⟨j, out⟩ => [(9, i64 j), (7, .d (.sl .one (strs out)))]) (fun ⟨j, out⟩ => []) (fun st => xs.length - st.1) (fun ⟨j, out⟩ => j ≤ xs.length ∧ (denyA want xs [] = denyA want (xs.drop j) out ∧ out.length + szB (xs.drop j) ≤ 2097152)) ((0, [])) ?_ ?_ ?_
 ·exact enterS [] rfl rfl BxTo_nil Sl_
 ·exact ⟨Nat.zero_le _, by simp, by simp; omega⟩
 rintro ⟨j, out⟩ ⟨hj, ⟨hI, ho⟩⟩
 show AC _ _ _ _ _ (FS [2, 8] _ [(9, i64 j), (7, .d (.sl .one (strs out)))]) []
 refine AC_seq fun _ hK6 => ?_
 refine Zs fun _ hK7 => ?_
 iterate 2 refine Zm ?_
 refine AL_lim (x := (Operand.tmp 15)) rfl fun hl1 => ?_
 try simp only [injs_length, ints_length, strs_length, injCs_length, u8s_length, List.length_map] at hl1
 refine Ze (Ev_len_injCs te24 rfl) ?_
 refine Ze (Ev_lss rfl rfl) ?_
 refine Zn hK7 ?_
 refine Zc (fun hc1 => ?_) fun hc1 => ?_
 ·have hlt : j < xs.length := by simpa using hc1
  obtain ⟨u, hu⟩ : ∃ x, xs[j]? = some x := ⟨_, List.getElem?_eq_getElem hlt⟩
  have hu2 := injCs_get hu
  have hdr := drop_get hu
  obtain ⟨_, hbu, _⟩ := hmem u (List.mem_of_getElem? hu)
  rw [hdr] at hI ho
  rw [denyA] at hI
  rw [szB] at ho
  have hle := eachF_le (μ := fun a : List ByteArray => (a.length : Int)) (stepW_le want) u.b false out
  refine Zk hK6 ?_
  refine AC_seq fun _ hK8 => ?_
  refine AC_block ?_
  refine Zs fun _ hK9 => ?_
  iterate 2 refine Zm ?_
  refine Yi te24 ts54 ?_
  refine Yr fa54_1 ?_
  refine YP ts41 ta41 ?_
  refine AL_fcall0 hT rfl cl64 (c_specTermOk u.b (by omega)) rfl rfl ?_
  refine Zn hK9 ?_
  refine Zc (fun hc2 => ?_) fun hc2 => ?_
  ·refine AC_region ?_
   iterate 2 refine Zm ?_
   refine Yi te24 ts54 ?_
   refine Yr fa54_1 ?_
   refine YP ts41 ta41 ?_
   iterate 2 refine Zm ?_
   refine AL_fcall0 hT rfl cl88 (c_l23Walk u.b false want out (by omega) (by omega)) rfl rfl ?_
   refine Za ?_
   refine Zn hK8 ?_
   refine AC_region ?_
   refine Zm ?_
   refine Ze (Ev_add rfl rfl _ (wrap_id (by omega) (by omega))) ?_
   refine Za ?_
   refine AL_nil ?_
   refine closeS (j + 1, eachF (stepW want) u.b false out) [] rfl rfl (by show xs.length - (j + 1) < xs.length - j; omega) ⟨hlt, ?_⟩ BxTo_nil Sl_
   exact ⟨by rw [hI, if_pos (by simpa using hc2)], by omega⟩
  ·refine Zk hK8 ?_
   refine AC_region ?_
   refine Zm ?_
   refine Ze (Ev_add rfl rfl _ (wrap_id (by omega) (by omega))) ?_
   refine Za ?_
   refine AL_nil ?_
   refine closeS (j + 1, out) [] rfl rfl (by show xs.length - (j + 1) < xs.length - j; omega) ⟨hlt, ?_⟩ BxTo_nil Sl_
   exact ⟨by rw [hI, if_neg (by simpa using hc2)], by omega⟩
 ·have hj2 : j = xs.length := by
   have : ¬ j < xs.length := by simpa using hc1
   omega
  subst hj2
  rw [List.drop_length] at hI
  refine Zx hK4 ?_
  refine Zs fun _ hK10 => ?_
  refine Zm ?_
  refine Za ?_
  refine Zn hK10 ?_
  refine AC_ret ?_
  refine Zr hdm ?_
  rw [denyA] at hI
  rw [hI]
set_option maxHeartbeats 1000000 in
set_option maxRecDepth 4000 in
theorem c_max (x0 : Int) (r : List Int) : PCall Tryz.prog 47 [.sl .one (ints (x0 :: r))] (· = [.c (.int .i64 (maxF (x0 :: r)))]) := by
 have hu0 : (ints (x0 :: r))[(0 : Int).toNat]? = some (.c (.int .i64 x0)) := rfl
 refine PCall_of (n := 25) Tryz.func47 rfl rfl (Nat.le_of_ble_eq_true rfl) fun C hdm hT0 => ?_
 have hT := hT0
 refine Zs fun _ hK1 => ?_
 refine Za ?_
 refine Zn hK1 ?_
 refine AC_seq fun _ hK2 => ?_
 refine Zs fun _ hK3 => ?_
 refine Zm ?_
 refine AL_lim (x := (Operand.tmp 5)) rfl fun hl1 => ?_
 try simp only [injs_length, ints_length, strs_length, injCs_length, u8s_length, List.length_map] at hl1
 refine Ze (Ev_len_ints te30 rfl) ?_
 refine Ze (Ev_lss rfl rfl) ?_
 refine Zn hK3 ?_
 refine Zc (fun hc1 => ?_) fun hc1 => ?_
 ·exact absurd hc1 (by simp; omega)
 ·refine Zk hK2 ?_
  refine Zs fun _ hK4 => ?_
  refine Zm ?_
  refine Yi te30 ts3 ?_
  refine Yp ts3 ta3 ?_
  refine Za ?_
  refine Zn hK4 ?_
  refine AC_seq fun _ hK5 => ?_
  refine Zs fun _ hK6 => ?_
  refine Za ?_
  refine Zn hK6 ?_
  refine AC_block ?_
  refine AC_loopS [0] (Nat × Int) (fun ⟨i, m⟩ => [(4, i64 i), (3, i64 m)]) (fun ⟨i, m⟩ => []) (fun st => (x0 :: r).length - st.1) (fun ⟨i, m⟩ => maxF (x0 :: r) = ((x0 :: r).drop i).foldl max m) ((1, x0)) ?_ ?_ ?_
  ·exact enterS [] rfl rfl BxTo_nil Sl_
  ·rfl
  rintro ⟨i, m⟩ hI
  show AC _ _ _ _ _ (FS [0] _ [(4, i64 i), (3, i64 m)]) []
  refine AC_seq fun _ hK7 => ?_
  refine Zs fun _ hK8 => ?_
  iterate 2 refine Zm ?_
  refine AL_lim (x := (Operand.tmp 13)) rfl fun hl2 => ?_
  try simp only [injs_length, ints_length, strs_length, injCs_length, u8s_length, List.length_map] at hl2
  refine Ze (Ev_len_ints te30 rfl) ?_
  refine Ze (Ev_lss rfl rfl) ?_
  refine Zn hK8 ?_
  refine Zc (fun hc2 => ?_) fun hc2 => ?_
  ·have hlt : i < (x0 :: r).length := by have := of_decide_eq_true hc2; omega
   obtain ⟨u, hu⟩ : ∃ u, (x0 :: r)[i]? = some u := ⟨_, List.getElem?_eq_getElem hlt⟩
   have hu2 := ints_get hu
   have hdr := drop_get hu
   refine Zk hK7 ?_
   refine AC_seq fun _ hK9 => ?_
   refine AC_block ?_
   refine AC_region ?_
   iterate 3 refine Zm ?_
   refine Yi te30 ts3 ?_
   refine Yp ts3 ta3 ?_
   refine Ze (Ev_max rfl rfl) ?_
   refine Za ?_
   refine Zn hK9 ?_
   refine AC_region ?_
   refine Zm ?_
   refine Ze (Ev_add rfl rfl _ (wrap_id (by omega) (by omega))) ?_
   refine Za ?_
   refine AL_nil ?_
   refine closeS (i + 1, max m u) [] rfl rfl (by show (x0 :: r).length - (i + 1) < (x0 :: r).length - i; omega) ?_ BxTo_nil Sl_
   rw [hI, hdr, List.foldl_cons]
  ·have hge : (x0 :: r).length ≤ i := by have := of_decide_eq_false hc2; omega
   refine Zx hK5 ?_
   refine Zs fun _ hK10 => ?_
   refine Zm ?_
   refine Za ?_
   refine Zn hK10 ?_
   refine AC_ret ?_
   refine Zr hdm ?_
   rw [hI, List.drop_eq_nil_of_le hge]
   rfl
set_option maxHeartbeats 4000000 in
set_option maxRecDepth 4000 in
theorem c_specLevelsOf (d : Dbt) (hb : bulkD d ≤ 1048576) : PCall Tryz.prog 11 [injD d] (· = [.sl .one (ints (levOf d).1), .c (.bool (levOf d).2)]) := by
 have hw := szB_bulk d.cs
 obtain ⟨hnc, hbc, hno, hbo⟩ := bulkD_bd (cs := d.cs) (op := d.op) hb
 obtain ⟨ps, hps⟩ : ∃ ps, ps = predsF d.cs [] := ⟨_, rfl⟩
 have hpl := predsF_len d.cs []
 have hpn : ps.Nodup := hps ▸ predsF_nodup d.cs List.nodup_nil
 have hpm : ∀ c ∈ d.cs, predS c.h ∈ ps := fun c hc => hps ▸ predsF_mem d.cs hc
 rw [← hps] at hpl
 simp only [List.length_nil, Nat.zero_add] at hpl
 refine PCall_of (n := 81) Tryz.func11 rfl rfl (Nat.le_of_ble_eq_true rfl) fun C hdm hT0 => ?_
 have hT := hT0
 refine Zs fun _ hK1 => ?_
 refine AL_box (Lay.st [.one, .one]) (nf rfl) rfl (by rfl) _ rfl rfl ?_
 iterate 2 refine Za ?_
 refine Zn hK1 ?_
 refine Zs fun _ hK2 => ?_
 refine YL ts27 ta27 ?_
 refine AL_fcall0 hT rfl cl9 (hps ▸ c_specPredsOf d hb) rfl rfl ?_
 refine Za ?_
 refine Zn hK2 ?_
 refine Zs fun _ hK3 => ?_
 refine Zm ?_
 refine AL_lim (x := (Operand.tmp 15)) rfl fun hl1 => ?_
 try simp only [injs_length, ints_length, strs_length, injCs_length, u8s_length, List.length_map] at hl1
 refine Ze (Ev_len_strs te25 rfl) ?_
 refine Za ?_
 refine Zn hK3 ?_
 refine Zs fun _ hK4 => ?_
 refine Zm ?_
 refine AL_makeSlice .one te30 ts3 zo3 tb3 rfl (by simp only [lim]; omega) (by omega) (by decide) _ rfl rfl ?_
 refine Za ?_
 refine Zn hK4 ?_
 refine Zs fun _ hK5 => ?_
 refine Za ?_
 refine Zn hK5 ?_
 refine AC_seq fun _ hK6 => ?_
 refine AC_block ?_
 refine AC_loopS [4, 5] (Bool × List Int) (fun ⟨ch, l⟩ => [(7, bl ch), (6, .ref .one 0 0 (ints l).length), (1, .d (.rp (Lay.st [.one, .one]) (injD d) []))]) (fun ⟨ch, l⟩ => [some ⟨3, .one, (ints l).map V.d⟩]) (fun st => mL ps.length st.1 st.2) (fun ⟨ch, l⟩ => (BelL ps (· ∈ edI ps d.cs) l ∧ bdL ps.length ps.length l ∧ (ch = false → SolL ps (· ∈ edI ps d.cs) l))) ((true, List.replicate ps.length 0)) ?_ ?_ ?_
 ·exact enterS [some 1] rfl rfl (BxTo_some rfl rfl rfl rfl (by exact VwL_of (by simp [ints])) BxTo_nil) Sl_
 ·exact ⟨BelL_zero rfl, bdL_zero _, fun h => by cases h⟩
 rintro ⟨ch, l⟩ ⟨hB, hbd, hS⟩
 show AC _ _ _ _ _ (FS [4, 5] _ [(7, bl ch), (6, .ref .one 0 0 (ints l).length), (1, .d (.rp (Lay.st [.one, .one]) (injD d) []))]) [some ⟨3, .one, (ints l).map V.d⟩]
 refine AC_seq fun _ hK7 => ?_
 refine Zs fun _ hK8 => ?_
 refine Zm ?_
 refine Zn hK8 ?_
 refine Zc (fun hc1 => ?_) fun hc1 => ?_
 ·refine Zk hK7 ?_
  refine AC_block ?_
  refine Zs fun _ hK9 => ?_
  refine Za ?_
  refine Zn hK9 ?_
  refine Zs fun _ hK10 => ?_
  refine Za ?_
  refine Zn hK10 ?_
  refine AC_block ?_
  refine AC_loopS [1, 4, 5] (Nat × Bool × List Int) (fun ⟨i, ch2, l2⟩ => [(8, i64 i), (7, bl ch2), (6, .ref .one 0 0 (ints l2).length)]) (fun ⟨i, ch2, l2⟩ => [some ⟨3, .one, (ints l2).map V.d⟩]) (fun st => ps.length - st.1) (fun ⟨i, ch2, l2⟩ => (i ≤ ps.length ∧ (l2, ch2) = runE ps (edT d.cs ps i) (l, false) ∧ bdL ps.length ps.length l2)) ((0, false, l)) ?_ ?_ ?_
  ·exact enterS [some 0] rfl rfl (BxTo_some rfl rfl rfl rfl (by exact VwL_dd (by rfl)) BxTo_nil) Sl_
  ·exact ⟨Nat.zero_le _, rfl, hbd⟩
  rintro ⟨i, ch2, l2⟩ ⟨hi, hR2, hbd2⟩
  show AC _ _ _ _ _ (FS [1, 4, 5] _ [(8, i64 i), (7, bl ch2), (6, .ref .one 0 0 (ints l2).length)]) [some ⟨3, .one, (ints l2).map V.d⟩]
  refine AC_seq fun _ hK11 => ?_
  refine Zs fun _ hK12 => ?_
  iterate 2 refine Zm ?_
  refine Ze (Ev_lss rfl rfl) ?_
  refine Zn hK12 ?_
  refine Zc (fun hc2 => ?_) fun hc2 => ?_
  ·have hip0 : i < ps.length := by have := of_decide_eq_true hc2; omega
   obtain ⟨p, hip⟩ : ∃ p, ps[i]? = some p := ⟨_, List.getElem?_eq_getElem hip0⟩
   have hu2p := strs_get hip
   refine Zk hK11 ?_
   refine AC_seq fun _ hK13 => ?_
   refine AC_block ?_
   refine AC_seq fun _ hK14 => ?_
   refine Zs fun _ hK15 => ?_
   refine Za ?_
   refine Zn hK15 ?_
   refine AC_block ?_
   refine AC_loopS [1, 4, 5, 8] (Nat × Bool × List Int) (fun ⟨k, ch3, l3⟩ => [(9, i64 k), (7, bl ch3), (6, .ref .one 0 0 (ints l3).length)]) (fun ⟨k, ch3, l3⟩ => [some ⟨3, .one, (ints l3).map V.d⟩]) (fun st => 2 - st.1) (fun ⟨k, ch3, l3⟩ => (k ≤ 2 ∧ (l3, ch3) = runE ps (edKs d.cs i p k) (l2, ch2) ∧ bdL ps.length (ps.length + k * 2097152) l3)) ((0, ch2, l2)) ?_ ?_ ?_
   ·exact enterS [some 0] rfl rfl (BxTo_some rfl rfl rfl rfl (by exact VwL_dd (by rfl)) BxTo_nil) Sl_
   ·exact ⟨by omega, rfl, hbd2.mono (by omega)⟩
   rintro ⟨k, ch3, l3⟩ ⟨hk, hR3, hbd3⟩
   show AC _ _ _ _ _ (FS [1, 4, 5, 8] _ [(9, i64 k), (7, bl ch3), (6, .ref .one 0 0 (ints l3).length)]) [some ⟨3, .one, (ints l3).map V.d⟩]
   refine AC_seq fun _ hK16 => ?_
   refine Zs fun _ hK17 => ?_
   refine Zm ?_
   refine Ze (Ev_lss rfl rfl) ?_
   refine Zn hK17 ?_
   refine Zc (fun hc3 => ?_) fun hc3 => ?_
   ·have hk2 : k < 2 := by have := of_decide_eq_true hc3; omega
    have hdl := deny_len d.cs p (decide (((k : Nat) : Int) = 1))
    refine Zk hK16 ?_
    refine AC_seq fun _ hK18 => ?_
    refine AC_block ?_
    refine AC_seq fun _ hK19 => ?_
    refine AC_draw hT follows [0, 1, 2, 3, 4, 5, 6, 7, 8] (by kernel_rfl) ?_
    refine DT_ev rfl (EA_load_rp rfl rfl rfl ts27 ta27 (by rfl) (by intro h; cases h)) rfl ?_
    refine DT_ev rfl (EA_move) rfl ?_
    refine DT_ev rfl (EA_move) rfl ?_
    refine DT_ev rfl (EA_ix_sl rfl rfl te25 ts9 (by omega) (by assumption)) rfl ?_
    refine DT_ev rfl (EA_load_rp rfl rfl rfl ts9 ta9 rfl (fun _ => rfl)) rfl ?_
    refine DT_ev rfl (EA_move) rfl ?_
    refine DT_ev rfl (EA_eql rfl rfl) rfl ?_
    refine DT_fcall0 rfl rfl cl48 (c_l23Denied d p (decide (((k : Nat) : Int) = 1)) hb) rfl rfl ?_
    refine DT_ev rfl (EA_assign) rfl ?_
    refine Zd hK19 ?_
    refine Zs fun _ hK20 => ?_
    refine Za ?_
    refine Zn hK20 ?_
    refine AC_block ?_
    refine AC_loopS [1, 4, 5, 8, 9, 10] (Nat × Bool × List Int) (fun ⟨j, ch4, l4⟩ => [(11, i64 j), (7, bl ch4), (6, .ref .one 0 0 (ints l4).length)]) (fun ⟨j, ch4, l4⟩ => [some ⟨3, .one, (ints l4).map V.d⟩]) (fun st => (deny d.cs p (decide (((k : Nat) : Int) = 1))).length - st.1) (fun ⟨j, ch4, l4⟩ => j ≤ (deny d.cs p (decide (((k : Nat) : Int) = 1))).length ∧ (runE ps (edK d.cs i p (decide (((k : Nat) : Int) = 1))) (l3, ch3) = runE ps (((deny d.cs p (decide (((k : Nat) : Int) = 1))).drop j).map fun s => (i, s, decide (((k : Nat) : Int) = 1))) (l4, ch4) ∧ bdL ps.length (ps.length + k * 2097152 + j) l4)) ((0, ch3, l3)) ?_ ?_ ?_
    ·exact enterS [some 0] rfl rfl (BxTo_some rfl rfl rfl rfl (by exact VwL_dd (by rfl)) BxTo_nil) Sl_
    ·exact ⟨Nat.zero_le _, rfl, hbd3.mono (by omega)⟩
    rintro ⟨j, ch4, l4⟩ ⟨hj, ⟨hR4, hbd4⟩⟩
    show AC _ _ _ _ _ (FS [1, 4, 5, 8, 9, 10] _ [(11, i64 j), (7, bl ch4), (6, .ref .one 0 0 (ints l4).length)]) [some ⟨3, .one, (ints l4).map V.d⟩]
    refine AC_seq fun _ hK21 => ?_
    refine Zs fun _ hK22 => ?_
    iterate 2 refine Zm ?_
    refine AL_lim (x := (Operand.tmp 38)) rfl fun hl2 => ?_
    try simp only [injs_length, ints_length, strs_length, injCs_length, u8s_length, List.length_map] at hl2
    refine Ze (Ev_len_strs te25 rfl) ?_
    refine Ze (Ev_lss rfl rfl) ?_
    refine Zn hK22 ?_
    refine Zc (fun hc4 => ?_) fun hc4 => ?_
    ·have hlt : j < (deny d.cs p (decide (((k : Nat) : Int) = 1))).length := by simpa using hc4
     obtain ⟨v, hu⟩ : ∃ x, (deny d.cs p (decide (((k : Nat) : Int) = 1)))[j]? = some x := ⟨_, List.getElem?_eq_getElem hlt⟩
     have hu2 := strs_get hu
     have hdr := drop_get hu
     rw [hdr, List.map_cons, runE_cons] at hR4
     have hl4 := hbd4.1
     have hbi := hbd4.2 i
     have hba := hbd4.2 (idxS ps v 0).toNat
     have hix := idxP_bd ps v
     unfold idxP at hix
     have hes := ints_es (l := l4) (i := 0 + ((i : Nat) : Int).toNat) (by simp; omega)
     rw [show 0 + ((i : Nat) : Int).toNat = i by omega] at hes
     have hes : ((ints l4).map V.d)[0 + ((i : Nat) : Int).toNat]? = some (.d (.c (.int .i64 (l4.getD i 0)))) := by rw [show 0 + ((i : Nat) : Int).toNat = i by omega]; exact hes
     have hgd : bdL ps.length (ps.length + k * 2097152 + j + 1) (rlx ps i (l4, ch4) v (decide (((k : Nat) : Int) = 1))).1 := rlx_bdL hbd4 (by omega)
     have hwk : wB (decide (((k : Nat) : Int) = 1)) = k := by
      have : k = 0 ∨ k = 1 := by omega
      rcases this with rfl | rfl <;> rfl
     refine Zk hK21 ?_
     refine AC_seq fun _ hK23 => ?_
     refine AC_block ?_
     refine Zs fun _ hK24 => ?_
     iterate 3 refine Zm ?_
     refine Yi te25 ts9 ?_
     refine Yp ts9 ta9 ?_
     refine AL_fcall0 hT rfl cl49 (c_l23At ps v) rfl rfl ?_
     refine Za ?_
     refine Zn hK24 ?_
     refine AC_seq fun _ hK25 => ?_
     refine AC_draw hT follows [0, 1, 2, 3, 4, 5, 6, 7, 8, 9, 10, 11, 12, 13, 14] (by kernel_rfl) ?_
     refine DT_ev rfl (EA_move) rfl ?_
     refine DT_ev rfl (EA_geq rfl rfl) rfl ?_
     refine DT_ev rfl (EA_move) rfl ?_
     refine DT_bool 51 rfl (fun hg5 => ?_) (fun hg5 => ?_)
     ·have hat : 0 ≤ idxS ps v 0 := of_decide_eq_true hg5
      have hes2 : ((ints l4).map V.d)[0 + (idxS ps v 0).toNat]? = some (.d (.c (.int .i64 (l4.getD (idxS ps v 0).toNat 0)))) := by rw [Nat.zero_add]; exact ints_es (by omega)
      refine DT_evt rfl rfl rfl rfl (EA_move) rfl ?_
      refine DT_evt rfl rfl rfl rfl (EA_move) rfl ?_
      refine DT_evt rfl rfl rfl rfl (EA_ix_ref rfl rfl te30 ts3 (by omega) (by (simp; omega))) rfl ?_
      refine DT_evt rfl rfl rfl rfl (EA_load_ptr rfl rfl rfl hes rfl rfl ts3 ta3 rfl (fun _ => rfl)) rfl ?_
      refine DT_evt rfl rfl rfl rfl (EA_move) rfl ?_
      refine DT_evt rfl rfl rfl rfl (EA_move) rfl ?_
      refine DT_evt rfl rfl rfl rfl (EA_ix_ref rfl rfl te30 ts3 (by omega) (by (simp; omega))) rfl ?_
      refine DT_evt rfl rfl rfl rfl (EA_load_ptr rfl rfl rfl hes2 rfl rfl ts3 ta3 rfl (fun _ => rfl)) rfl ?_
      refine DT_evt rfl rfl rfl rfl (EA_move) rfl ?_
      refine DT_evt rfl rfl rfl rfl (EA_add rfl rfl _ (wrap_id (by omega) (by omega))) rfl ?_
      refine DT_evt rfl rfl rfl rfl (EA_lss rfl rfl) rfl ?_
      refine DT_ev rfl (EA_pick rfl) rfl ?_
      refine Zd hK25 ?_
      refine Zc (fun hc6 => ?_) fun hc6 => ?_
      ·refine Zs fun _ hK26 => ?_
       iterate 4 refine Zm ?_
       refine Ze (Ev_ix_ref rfl rfl te30 ts3 (by omega) (by (simp; omega))) ?_
       refine Ze (Ev_load_ptr rfl rfl rfl hes2 rfl rfl ts3 ta3 rfl (fun _ => rfl)) ?_
       refine Zm ?_
       refine Ze (Ev_add rfl rfl _ (wrap_id (by omega) (by omega))) ?_
       refine Ze (Ev_ix_ref rfl rfl te30 ts3 (by omega) (by (simp; omega))) ?_
       refine AL_store rfl (nf rfl) rfl rfl rfl hes rfl rfl (by rfl) ts3 rfl rfl ?_
       refine Zn hK26 ?_
       refine AC_region ?_
       refine Za ?_
       refine Zn hK23 ?_
       refine AC_region ?_
       refine Zm ?_
       refine Ze (Ev_add rfl rfl _ (wrap_id (by omega) (by omega))) ?_
       refine Za ?_
       refine AL_nil ?_
       refine closeS (j + 1, true, l4.set i (l4.getD (idxS ps v 0).toNat 0 + k)) [some 0] rfl rfl (by show (deny d.cs p (decide (((k : Nat) : Int) = 1))).length - (j + 1) < (deny d.cs p (decide (((k : Nat) : Int) = 1))).length - j; omega) ⟨hlt, ?_⟩ (BxTo_some rfl rfl rfl rfl (by exact VwL_of (by rw [show 0 + ((i : Nat) : Int).toNat = i by omega]; exact ints_set _ _ _)) BxTo_nil) Sl_
       have hrl := rlx_lt (ps := ps) (i := i) (a := (l4, ch4)) (s := v) (n := decide (((k : Nat) : Int) = 1)) hat (by rw [hwk]; exact of_decide_eq_true hc6)
       rw [hwk] at hrl
       rw [hrl] at hgd
       exact ⟨by rw [hR4]; unfold rlxE; simp only; rw [hrl], hgd.mono (by push_cast; omega)⟩
      ·refine Zk hK23 ?_
       refine AC_region ?_
       refine Zm ?_
       refine Ze (Ev_add rfl rfl _ (wrap_id (by omega) (by omega))) ?_
       refine Za ?_
       refine AL_nil ?_
       refine closeS (j + 1, ch4, l4) [some 0] rfl rfl (by show (deny d.cs p (decide (((k : Nat) : Int) = 1))).length - (j + 1) < (deny d.cs p (decide (((k : Nat) : Int) = 1))).length - j; omega) ⟨hlt, ?_⟩ (BxTo_some rfl rfl rfl rfl (by exact VwL_dd (by rfl)) BxTo_nil) Sl_
       have hrl := rlx_ge (ps := ps) (i := i) (a := (l4, ch4)) (s := v) (n := decide (((k : Nat) : Int) = 1)) hat (by rw [hwk]; exact of_decide_eq_false hc6)
       exact ⟨by rw [hR4]; unfold rlxE; simp only; rw [hrl], hbd4.mono (by push_cast; omega)⟩
     ·iterate 11 refine Df ?_
      refine DT_ev rfl (EA_pick rfl) rfl ?_
      refine Zd hK25 ?_
      refine AC_cond_f rfl ?_
      refine Zk hK23 ?_
      refine AC_region ?_
      refine Zm ?_
      refine Ze (Ev_add rfl rfl _ (wrap_id (by omega) (by omega))) ?_
      refine Za ?_
      refine AL_nil ?_
      refine closeS (j + 1, ch4, l4) [some 0] rfl rfl (by show (deny d.cs p (decide (((k : Nat) : Int) = 1))).length - (j + 1) < (deny d.cs p (decide (((k : Nat) : Int) = 1))).length - j; omega) ⟨hlt, ?_⟩ (BxTo_some rfl rfl rfl rfl (by exact VwL_dd (by rfl)) BxTo_nil) Sl_
      have hrl := rlx_neg (ps := ps) (i := i) (a := (l4, ch4)) (s := v) (n := decide (((k : Nat) : Int) = 1)) (by have := of_decide_eq_false hg5; omega)
      exact ⟨by rw [hR4]; unfold rlxE; simp only; rw [hrl], hbd4.mono (by push_cast; omega)⟩
    ·have hj2 : j = (deny d.cs p (decide (((k : Nat) : Int) = 1))).length := by
      have : ¬ j < (deny d.cs p (decide (((k : Nat) : Int) = 1))).length := by simpa using hc4
      omega
     subst hj2
     refine Zx hK18 ?_
     refine AC_region ?_
     refine Zm ?_
     refine Ze (Ev_add rfl rfl _ (wrap_id (by omega) (by omega))) ?_
     refine Za ?_
     refine AL_nil ?_
     refine closeS (k + 1, ch4, l4) [some 0] rfl rfl (by show 2 - (k + 1) < 2 - k; omega) ?_ (BxTo_some rfl rfl rfl rfl (by exact VwL_dd (by rfl)) BxTo_nil) Sl_
     rw [List.drop_length] at hR4
     exact ⟨by omega, by rw [edKs_one _ _ _ _ hk2, ← hR3]; exact hR4.symm, hbd4.mono (by push_cast; omega)⟩
   ·have hk2 : k = 2 := by have := of_decide_eq_false hc3; omega
    subst hk2
    have hl3 := hbd3.1
    have hes : ((ints l3).map V.d)[0 + ((i : Nat) : Int).toNat]? = some (.d (.c (.int .i64 (l3.getD i 0)))) := by rw [show 0 + ((i : Nat) : Int).toNat = i by omega]; exact ints_es (by omega)
    have hR3e : (l3, ch3) = runE ps (edS d.cs i p) (l2, ch2) := hR3
    have hBl3 := bel_pass hpn hpm hip hB hR2 hR3e
    refine Zx hK14 ?_
    refine Zs fun _ hK27 => ?_
    iterate 2 refine Zm ?_
    refine Ze (Ev_ix_ref rfl rfl te30 ts3 (by omega) (by (simp; omega))) ?_
    refine Ze (Ev_load_ptr rfl rfl rfl hes rfl rfl ts3 ta3 rfl (fun _ => rfl)) ?_
    refine Zm ?_
    refine Ze (Ev_gtr rfl rfl) ?_
    refine Zn hK27 ?_
    refine Zc (fun hc7 => ?_) fun hc7 => ?_
    ·refine Zs fun _ hK28 => ?_
     refine AL_bD .one rfl te30 ts3 tz3 rfl rfl (by decide) (by decide) (by rfl) rfl ?_
     iterate 2 refine Za ?_
     refine Zn hK28 ?_
     refine AC_ret ?_
     refine ret_ok hdm (.tmp rfl rfl (.tmp rfl rfl .nil)) (.cons .d (.cons .d .nil)) ?_
     have hR2 : levOf d = ([], false) := levOf_eq' hps (.inr ⟨rfl, l3, hBl3, i, of_decide_eq_true hc7⟩)
     rw [hR2]
     rfl
    ·have hbd3e := bdL_pass hbd2 hbd3 hR3e (by have := of_decide_eq_false hc7; omega)
     refine Zk hK13 ?_
     refine AC_region ?_
     refine Zm ?_
     refine Ze (Ev_add rfl rfl _ (wrap_id (by omega) (by omega))) ?_
     refine Za ?_
     refine AL_nil ?_
     refine closeS (i + 1, ch3, l3) [some 0] rfl rfl (by show ps.length - (i + 1) < ps.length - i; omega) ?_ (BxTo_some rfl rfl rfl rfl (by exact VwL_dd (by rfl)) BxTo_nil) Sl_
     exact ⟨by omega, by rw [edT, hip, runE_app, ← hR2]; exact hR3e, hbd3e⟩
  ·have hin : i = ps.length := by have := of_decide_eq_false hc2; omega
   subst hin
   have hPE := pass_end hpn hpm (edT_sub hpn hpm) (fun e he => edT_all hpn hpm he) hB hR2
   have hml := mL_lt hPE.2.2 hbd2
   have hct : ch = true := hc1
   subst hct
   refine AC_exit ?_
   refine closeS (ch2, l2) [some 0] rfl rfl (by show mL ps.length ch2 l2 < mL ps.length true l; omega) ?_ (BxTo_some rfl rfl rfl rfl (by exact VwL_dd (by rfl)) BxTo_nil) Sl_
   exact ⟨hPE.1, hbd2, fun h => (hPE.2.1 h).1⟩
 ·have hcf : ch = false := hc1
  refine Zx hK6 ?_
  refine Zs fun _ hK29 => ?_
  refine Zm ?_
  iterate 2 refine Za ?_
  refine Zn hK29 ?_
  refine AC_ret ?_
  refine ret_ok hdm (.tmp rfl rfl (.tmp rfl rfl .nil)) (.cons (.ref trivial rfl rfl (by simp) (ReadsL_d _)) (.cons .d .nil)) ?_
  have hR2 : levOf d = (l, true) := levOf_eq' hps (.inl ⟨rfl, hS hcf, hB, fun q => (hbd.2 q).2⟩)
  rw [hR2]
set_option maxHeartbeats 1000000 in
set_option maxRecDepth 4000 in
theorem c_levelsOf1 (ps : List ByteArray) (at0 : Nat) (hat : at0 < ps.length) (s : ByteArray) (neg : Bool) (l l1 : List Int) (c c1 : Bool) (hg : goodL ps (l, c)) (hsup : supL l + 1 ≤ 1099511627776) (hrl : rlx ps at0 (l, c) s neg = (l1, c1)) : HCall Tryz.prog 46 [st s, bl neg, .ptr .one 0 0 [], .ptr .one 2 0 [], .ptr .one 4 0 [], .ptr .one 5 0 []] [⟨25, .one, [.ref .one 1 0 ps.length]⟩, ⟨9, .one, (strs ps).map V.d⟩, ⟨30, .one, [.ref .one 3 0 ps.length]⟩, ⟨3, .one, (ints (l)).map V.d⟩, ⟨3, .one, [i64 ((at0 : Nat) : Int)]⟩, ⟨4, .one, [bl (c)]⟩] 6 none [] [⟨25, .one, [.ref .one 1 0 ps.length]⟩, ⟨9, .one, (strs ps).map V.d⟩, ⟨30, .one, [.ref .one 3 0 ps.length]⟩, ⟨3, .one, (ints (l1)).map V.d⟩, ⟨3, .one, [i64 ((at0 : Nat) : Int)]⟩, ⟨4, .one, [bl (c1)]⟩] := by
 have hl := hg.1
 have hi0 := hg.2 at0
 have hsi := supL_get l at0
 have hix := idxP_bd ps s
 unfold idxP at hix
 have hj0 := hg.2 (idxS ps s 0).toNat
 have hsj := supL_get l (idxS ps s 0).toNat
 simp only at hl hi0 hj0
 have hes : ((ints l).map V.d)[0 + ((at0 : Nat) : Int).toNat]? = some (.d (.c (.int .i64 (l.getD at0 0)))) := by rw [show 0 + ((at0 : Nat) : Int).toNat = at0 by omega]; exact ints_es (by omega)
 refine HCall_of (n := 32) Tryz.func46 rfl rfl (Nat.le_of_ble_eq_true rfl) (Nat.le_of_ble_eq_true rfl) fun C0 o hdm hT => ?_
 refine Zs fun _ hK1 => ?_
 refine Yl ts25 ta25 ?_
 refine Zm ?_
 refine AL_qcall hT rfl cl43 (c_indexS ps s) (.cons (.rd (.ref trivial rfl rfl (by (simp; done)) (ReadsL_d _))) (.cons (.rd .d) .nil)) rfl ?_
 refine Za ?_
 refine Zn hK1 ?_
 refine AC_seq fun _ hK2 => ?_
 refine Zs fun _ hK3 => ?_
 refine Zm ?_
 refine Ze (Ev_lss rfl rfl) ?_
 refine Zn hK3 ?_
 refine Zc (fun hc1 => ?_) fun hc1 => ?_
 ·obtain ⟨rfl, rfl⟩ := Prod.mk.inj ((rlx_neg (ps := ps) (i := at0) (a := (l, c)) (s := s) (n := neg) (of_decide_eq_true hc1)).symm.trans hrl)
  refine AC_ret ?_
  exact reth_ok [0, 1, 2, 3, 4, 5] (CExt.refl _) .nil rfl rfl (BxF_stay rfl rfl rfl rfl rfl (.cons (.ref rfl) .nil) rfl (BxF_stay rfl rfl rfl rfl rfl (VxL_d _) rfl (BxF_stay rfl rfl rfl rfl rfl (.cons (.ref rfl) .nil) rfl (BxF_stay rfl rfl rfl rfl rfl (VxL_d _) rfl (BxF_stay rfl rfl rfl rfl rfl (.cons .d .nil) rfl (BxF_stay rfl rfl rfl rfl rfl (.cons .d .nil) rfl BxF_nil)))))) (Nat.le_refl _) .nil
 ·have hat2 : 0 ≤ idxS ps s 0 := by have := of_decide_eq_false hc1; omega
  have hes2 : ((ints l).map V.d)[0 + (idxS ps s 0).toNat]? = some (.d (.c (.int .i64 (l.getD (idxS ps s 0).toNat 0)))) := by rw [Nat.zero_add]; exact ints_es (by omega)
  refine Zk hK2 ?_
  refine Zs fun _ hK4 => ?_
  refine Yl ts30 ta30 ?_
  refine Zm ?_
  refine Ze (Ev_ix_ref rfl rfl te30 ts3 (by omega) (by omega)) ?_
  refine Ze (Ev_load_ptr rfl rfl rfl hes2 rfl rfl ts3 ta3 rfl (fun _ => rfl)) ?_
  refine Za ?_
  refine Zn hK4 ?_
  refine AC_seq fun _ hK5 => ?_
  refine Zs fun _ hK6 => ?_
  refine Zm ?_
  refine Zn hK6 ?_
  refine Zc (fun hc2 => ?_) fun hc2 => ?_
  ·have hneg : neg = true := hc2
   subst hneg
   refine AC_region ?_
   refine Zm ?_
   refine Ze (Ev_add rfl rfl _ (wrap_id (by omega) (by omega))) ?_
   refine Za ?_
   refine Zn hK5 ?_
   refine Zs fun _ hK7 => ?_
   refine Yl ts30 ta30 ?_
   refine Yl ts3 ta3 ?_
   refine Ze (Ev_ix_ref rfl rfl te30 ts3 (by omega) (by omega)) ?_
   refine Ze (Ev_load_ptr rfl rfl rfl hes rfl rfl ts3 ta3 rfl (fun _ => rfl)) ?_
   refine Zm ?_
   refine Ze (Ev_lss rfl rfl) ?_
   refine Zn hK7 ?_
   refine Zc (fun hc3 => ?_) fun hc3 => ?_
   ·have hq : rlx ps at0 (l, c) s true = (l.set at0 (l.getD (idxS ps s 0).toNat 0 + 1), true) := by
     have h9 := rlx_lt (ps := ps) (i := at0) (a := (l, c)) (s := s) (n := true) hat2 (by simp only [show wB true = 1 from rfl, Int.add_zero]; exact of_decide_eq_true hc3)
     simpa only [show wB true = 1 from rfl, Int.add_zero] using h9
    obtain ⟨rfl, rfl⟩ := Prod.mk.inj (hq.symm.trans hrl)
    refine Zs fun _ hK8 => ?_
    refine Yl ts30 ta30 ?_
    refine Yl ts3 ta3 ?_
    refine Zm ?_
    refine Ze (Ev_ix_ref rfl rfl te30 ts3 (by omega) (by omega)) ?_
    refine AL_store rfl (nf rfl) rfl rfl rfl hes rfl rfl (by rfl) ts3 rfl rfl ?_
    refine Zn hK8 ?_
    refine AC_region ?_
    refine Ys ts4 ?_
    refine AL_nil ?_
    exact reth_ok [0, 1, 2, 3, 4, 5] (CExt.refl _) .nil rfl rfl (BxF_stay rfl rfl rfl rfl rfl (.cons (.ref rfl) .nil) rfl (BxF_stay rfl rfl rfl rfl rfl (VxL_d _) rfl (BxF_stay rfl rfl rfl rfl rfl (.cons (.ref rfl) .nil) rfl (BxF_stay rfl rfl rfl rfl rfl (VxL_ds (by rw [show 0 + ((at0 : Nat) : Int).toNat = at0 by omega]; exact ints_set _ _ _)) rfl (BxF_stay rfl rfl rfl rfl rfl (.cons .d .nil) rfl (BxF_stay rfl rfl rfl rfl rfl (.cons .d .nil) rfl BxF_nil)))))) (Nat.le_refl _) .nil
   ·obtain ⟨rfl, rfl⟩ := Prod.mk.inj ((rlx_ge (ps := ps) (i := at0) (a := (l, c)) (s := s) (n := true) hat2 (by simp only [show wB true = 1 from rfl, Int.add_zero]; exact of_decide_eq_false hc3)).symm.trans hrl)
    refine AC_skip ?_
    exact reth_ok [0, 1, 2, 3, 4, 5] (CExt.refl _) .nil rfl rfl (BxF_stay rfl rfl rfl rfl rfl (.cons (.ref rfl) .nil) rfl (BxF_stay rfl rfl rfl rfl rfl (VxL_d _) rfl (BxF_stay rfl rfl rfl rfl rfl (.cons (.ref rfl) .nil) rfl (BxF_stay rfl rfl rfl rfl rfl (VxL_d _) rfl (BxF_stay rfl rfl rfl rfl rfl (.cons .d .nil) rfl (BxF_stay rfl rfl rfl rfl rfl (.cons .d .nil) rfl BxF_nil)))))) (Nat.le_refl _) .nil
  ·have hneg : neg = false := hc2
   subst hneg
   refine Zk hK5 ?_
   refine Zs fun _ hK9 => ?_
   refine Yl ts30 ta30 ?_
   refine Yl ts3 ta3 ?_
   refine Ze (Ev_ix_ref rfl rfl te30 ts3 (by omega) (by omega)) ?_
   refine Ze (Ev_load_ptr rfl rfl rfl hes rfl rfl ts3 ta3 rfl (fun _ => rfl)) ?_
   refine Zm ?_
   refine Ze (Ev_lss rfl rfl) ?_
   refine Zn hK9 ?_
   refine Zc (fun hc4 => ?_) fun hc4 => ?_
   ·have hq : rlx ps at0 (l, c) s false = (l.set at0 (l.getD (idxS ps s 0).toNat 0), true) := by
     have h9 := rlx_lt (ps := ps) (i := at0) (a := (l, c)) (s := s) (n := false) hat2 (by simp only [show wB false = 0 from rfl, Int.add_zero]; exact of_decide_eq_true hc4)
     simpa only [show wB false = 0 from rfl, Int.add_zero] using h9
    obtain ⟨rfl, rfl⟩ := Prod.mk.inj (hq.symm.trans hrl)
    refine Zs fun _ hK10 => ?_
    refine Yl ts30 ta30 ?_
    refine Yl ts3 ta3 ?_
    refine Zm ?_
    refine Ze (Ev_ix_ref rfl rfl te30 ts3 (by omega) (by omega)) ?_
    refine AL_store rfl (nf rfl) rfl rfl rfl hes rfl rfl (by rfl) ts3 rfl rfl ?_
    refine Zn hK10 ?_
    refine AC_region ?_
    refine Ys ts4 ?_
    refine AL_nil ?_
    exact reth_ok [0, 1, 2, 3, 4, 5] (CExt.refl _) .nil rfl rfl (BxF_stay rfl rfl rfl rfl rfl (.cons (.ref rfl) .nil) rfl (BxF_stay rfl rfl rfl rfl rfl (VxL_d _) rfl (BxF_stay rfl rfl rfl rfl rfl (.cons (.ref rfl) .nil) rfl (BxF_stay rfl rfl rfl rfl rfl (VxL_ds (by rw [show 0 + ((at0 : Nat) : Int).toNat = at0 by omega]; exact ints_set _ _ _)) rfl (BxF_stay rfl rfl rfl rfl rfl (.cons .d .nil) rfl (BxF_stay rfl rfl rfl rfl rfl (.cons .d .nil) rfl BxF_nil)))))) (Nat.le_refl _) .nil
   ·obtain ⟨rfl, rfl⟩ := Prod.mk.inj ((rlx_ge (ps := ps) (i := at0) (a := (l, c)) (s := s) (n := false) hat2 (by simp only [show wB false = 0 from rfl, Int.add_zero]; exact of_decide_eq_false hc4)).symm.trans hrl)
    refine AC_skip ?_
    exact reth_ok [0, 1, 2, 3, 4, 5] (CExt.refl _) .nil rfl rfl (BxF_stay rfl rfl rfl rfl rfl (.cons (.ref rfl) .nil) rfl (BxF_stay rfl rfl rfl rfl rfl (VxL_d _) rfl (BxF_stay rfl rfl rfl rfl rfl (.cons (.ref rfl) .nil) rfl (BxF_stay rfl rfl rfl rfl rfl (VxL_d _) rfl (BxF_stay rfl rfl rfl rfl rfl (.cons .d .nil) rfl (BxF_stay rfl rfl rfl rfl rfl (.cons .d .nil) rfl BxF_nil)))))) (Nat.le_refl _) .nil
theorem c_levEach (ps : List ByteArray) (at0 : Nat) (hat : at0 < ps.length) (t : T) (l l1 : List Int) (c c1 : Bool) (hb : bulk t ≤ 1048576) (hg : goodL ps (l, c)) (hsup : supL l ≤ 8388608) (hr : eachF (rlx ps at0) t false (l, c) = (l1, c1)) :
 HCall Tryz.prog 45 [.d (inj t), bl false, .fn 46 [.ptr .one 0 0 [], .ptr .one 2 0 [], .ptr .one 4 0 [], .ptr .one 5 0 []]] [⟨25, .one, [.ref .one 1 0 ps.length]⟩, ⟨9, .one, (strs ps).map V.d⟩, ⟨30, .one, [.ref .one 3 0 ps.length]⟩, ⟨3, .one, (ints (l)).map V.d⟩, ⟨3, .one, [i64 ((at0 : Nat) : Int)]⟩, ⟨4, .one, [bl (c)]⟩] 6 none [.any] [⟨25, .one, [.ref .one 1 0 ps.length]⟩, ⟨9, .one, (strs ps).map V.d⟩, ⟨30, .one, [.ref .one 3 0 ps.length]⟩, ⟨3, .one, (ints (l1)).map V.d⟩, ⟨3, .one, [i64 ((at0 : Nat) : Int)]⟩, ⟨4, .one, [bl (c1)]⟩] := by
 have h := HCall_of_F (P := Tryz.prog) (k := 45) (kk := 46) (m := 6) (Ls := fun a : LvA => [⟨25, .one, [.ref .one 1 0 ps.length]⟩, ⟨9, .one, (strs ps).map V.d⟩, ⟨30, .one, [.ref .one 3 0 ps.length]⟩, ⟨3, .one, (ints (a.1)).map V.d⟩, ⟨3, .one, [i64 ((at0 : Nat) : Int)]⟩, ⟨4, .one, [bl (a.2)]⟩]) (pre := [inj t, .c (.bool false)]) (ps := [0, 2, 4, 5]) (a0 := (l, c)) (a1 := (l1, c1)) (fun j hj => by
  simp only [List.mem_cons, List.not_mem_nil, or_false] at hj
  rcases hj with rfl | rfl | rfl | rfl <;> exact ⟨_, rfl, by simp⟩) rfl (by
  intro bx hbx
  simp only [List.mem_cons, List.not_mem_nil, or_false] at hbx
  rcases hbx with rfl | rfl | rfl | rfl | rfl | rfl
  ·intro v hv; rw [List.mem_singleton] at hv; subst hv; trivial
  ·exact free_strs _
  ·intro v hv; rw [List.mem_singleton] at hv; subst hv; trivial
  ·exact free_ints _
  ·intro v hv; rw [List.mem_singleton] at hv; subst hv; rfl
  ·intro v hv; rw [List.mem_singleton] at hv; subst hv; rfl) (by
  intro bx hbx
  simp only [List.mem_cons, List.not_mem_nil, or_false] at hbx
  rcases hbx with rfl | rfl | rfl | rfl | rfl | rfl
  ·intro v hv; rw [List.mem_singleton] at hv; subst hv; trivial
  ·exact free_strs _
  ·intro v hv; rw [List.mem_singleton] at hv; subst hv; trivial
  ·exact free_ints _
  ·intro v hv; rw [List.mem_singleton] at hv; subst hv; rfl
  ·intro v hv; rw [List.mem_singleton] at hv; subst hv; rfl) (fun o ho => by
  have hsb := sz_bulk t
  have he := c_eachCall (Jbx o 6 fun a : LvA => [⟨25, .one, [.ref .one 1 0 ps.length]⟩, ⟨9, .one, (strs ps).map V.d⟩, ⟨30, .one, [.ref .one 3 0 ps.length]⟩, ⟨3, .one, (ints (a.1)).map V.d⟩, ⟨3, .one, [i64 ((at0 : Nat) : Int)]⟩, ⟨4, .one, [bl (a.2)]⟩]) 46 ([0, 2, 4, 5].map (ptrO o)) (by simp [ptrO_scalar]) cl46 (rlx ps at0) (μL ps) (μL_le ps at0) (fun s n a ha => by
   obtain ⟨hg2, hs2⟩ := μL_good ha
   obtain ⟨l2, c2⟩ := a
   exact FCall_of_H (ds := [.c (.string s), .c (.bool n)]) (ps := [0, 2, 4, 5]) (a1 := rlx ps at0 (l2, c2) s n) ho rfl rfl (by
  intro bx hbx
  simp only [List.mem_cons, List.not_mem_nil, or_false] at hbx
  rcases hbx with rfl | rfl | rfl | rfl | rfl | rfl
  ·intro v hv; rw [List.mem_singleton] at hv; subst hv; trivial
  ·exact free_strs _
  ·intro v hv; rw [List.mem_singleton] at hv; subst hv; trivial
  ·exact free_ints _
  ·intro v hv; rw [List.mem_singleton] at hv; subst hv; rfl
  ·intro v hv; rw [List.mem_singleton] at hv; subst hv; rfl) (by
  intro bx hbx
  simp only [List.mem_cons, List.not_mem_nil, or_false] at hbx
  rcases hbx with rfl | rfl | rfl | rfl | rfl | rfl
  ·intro v hv; rw [List.mem_singleton] at hv; subst hv; trivial
  ·exact free_strs _
  ·intro v hv; rw [List.mem_singleton] at hv; subst hv; trivial
  ·exact free_ints _
  ·intro v hv; rw [List.mem_singleton] at hv; subst hv; rfl
  ·intro v hv; rw [List.mem_singleton] at hv; subst hv; rfl) (c_levelsOf1 ps at0 hat s n l2 (rlx ps at0 (l2, c2) s n).1 c2 (rlx ps at0 (l2, c2) s n).2 hg2 hs2 rfl)) t false (l, c) (by omega) (by rw [μL_of hg]; simp only; omega)
  rw [hr] at he
  exact he)
 exact h
theorem c_maxN (xs : List Int) (h : xs ≠ []) : PCall Tryz.prog 47 [.sl .one (ints xs)] (· = [.c (.int .i64 (maxF xs))]) := by
 match xs, h with
 | x0 :: r, _ => exact c_max x0 r
set_option maxHeartbeats 1000000 in
set_option maxRecDepth 4000 in
theorem c_predsOfN (d : Dbt) (hb : bulkD d ≤ 1048576) : NCall Tryz.prog 16 [injD d] 9 (predsF d.cs []) := by
 obtain ⟨cs, op⟩ := d
 obtain ⟨hnc, hbc, hno, hbo⟩ := bulkD_bd hb
 refine NCall_of (n := 20) Tryz.func16 rfl rfl (Nat.le_of_ble_eq_true rfl) fun C hdm hT => ?_
 refine Zs fun _ hK1 => ?_
 refine AL_box (Lay.st [.one, .one]) (nf rfl) rfl (by rfl) _ rfl rfl ?_
 refine Za ?_
 refine Zn hK1 ?_
 refine Zs fun _ hK2 => ?_
 refine Za ?_
 refine Zn hK2 ?_
 refine AC_seq fun _ hK3 => ?_
 refine Zs fun _ hK4 => ?_
 refine Ya fa27_0 ?_
 refine Yl ts24 ta24 ?_
 refine AL_lim (x := (Operand.tmp 7)) rfl fun hl1 => ?_
 try simp only [injs_length, ints_length, strs_length, injCs_length, u8s_length, List.length_map] at hl1
 refine Ze (Ev_len_injCs te24 rfl) ?_
 refine Zm ?_
 refine Zn hK4 ?_
 refine AC_block ?_
 refine AC_loopS [7, 8] (Nat × List ByteArray) (fun ⟨j, out⟩ => [(9, i64 j), (3, .ref .one 0 0 (strs out).length)]) (fun ⟨j, out⟩ => [some ⟨9, .one, (strs out).map V.d⟩]) (fun st => cs.length - st.1) (fun ⟨j, out⟩ => j ≤ cs.length ∧ (predsF cs [] = predsF (cs.drop j) out ∧ out.length ≤ j)) ((0, [])) ?_ ?_ ?_
 ·refine Wk.then (Wk_nil_slot 3 9 .one rfl 1 rfl ?_)
  exact enterS [some 1] rfl rfl (BxTo_some rfl rfl rfl rfl (by exact .nil) BxTo_nil) Sl_
 ·exact ⟨Nat.zero_le _, by simp, by simp⟩
 rintro ⟨j, out⟩ ⟨hj, ⟨hI, ho⟩⟩
 show AC _ _ _ _ _ (FS [7, 8] _ [(9, i64 j), (3, .ref .one 0 0 (strs out).length)]) [some ⟨9, .one, (strs out).map V.d⟩]
 refine Zs fun _ hK5 => ?_
 refine Ze (Ev_lss rfl rfl) ?_
 refine Zn hK5 ?_
 refine AC_seq fun _ hK6 => ?_
 refine Zc (fun hc1 => ?_) fun hc1 => ?_
 ·have hlt : j < cs.length := by simpa using hc1
  obtain ⟨u, hu⟩ : ∃ x, cs[j]? = some x := ⟨_, List.getElem?_eq_getElem hlt⟩
  have hu2 := injCs_get hu
  have hdr := drop_get hu
  obtain ⟨hbu, _, _⟩ := bulkCs_bd (List.mem_of_getElem? hu) hbc
  rw [hdr, predsF] at hI
  have hol := onceL_len out (predS u.h)
  refine Zk hK6 ?_
  refine AC_seq fun _ hK7 => ?_
  refine AC_block ?_
  refine Zs fun _ hK8 => ?_
  refine Yi te24 ts54 ?_
  refine YP ts54 ta54 ?_
  refine AL_alloc zo54 _ rfl rfl ?_
  refine Ys ts54 ?_
  refine Zn hK8 ?_
  refine AC_region ?_
  refine Zm ?_
  refine Ya fa54_0 ?_
  refine YL ts41 ta41 ?_
  refine AL_fcall0 hT rfl cl44 (c_predOf u.h (by omega)) rfl rfl ?_
  refine AL_bcall hT _ _ [] rfl cl52 rfl rfl rfl rfl (c_once out (predS u.h) (by omega)) rfl rfl (by rfl) _ rfl rfl ?_
  refine Za ?_
  refine Zn hK7 ?_
  refine AC_region ?_
  refine Ze (Ev_add rfl rfl _ (wrap_id (by omega) (by omega))) ?_
  refine Zm ?_
  refine AL_nil ?_
  refine closeS (j + 1, onceL out (predS u.h)) [some 2] rfl rfl (by show cs.length - (j + 1) < cs.length - j; omega) ⟨hlt, ?_⟩ (BxTo_some rfl rfl rfl rfl (by exact VwL_dd (by rfl)) BxTo_nil) Sl_
  exact ⟨hI, by omega⟩
 ·have hj2 : j = cs.length := by
   have : ¬ j < cs.length := by simpa using hc1
   omega
  subst hj2
  rw [List.drop_length] at hI
  refine Zx hK3 ?_
  refine Zs fun _ hK9 => ?_
  refine Zm ?_
  refine Za ?_
  refine Zn hK9 ?_
  refine AC_ret ?_
  rw [predsF] at hI
  rw [hI]
  exact retn_ok hdm (.tmp rfl rfl .nil) rfl (by rfl) (by simp)
set_option maxHeartbeats 4000000 in
set_option maxRecDepth 4000 in
theorem c_implLevelsOf (d : Dbt) (hb : bulkD d ≤ 1048576) : OTCall Tryz.prog 10 [injD d] 3 .one (ints (levOf d).1) [.bool (levOf d).2] := by
 obtain ⟨cs, op⟩ := d
 have hw := szB_bulk cs
 obtain ⟨hnc, hbc, hno, hbo⟩ := bulkD_bd hb
 obtain ⟨ps, hps⟩ : ∃ ps, ps = predsF cs [] := ⟨_, rfl⟩
 have hpl := predsF_len cs []
 have hpn : ps.Nodup := hps ▸ predsF_nodup cs List.nodup_nil
 have hpm : ∀ c ∈ cs, predS c.h ∈ ps := fun c hc => hps ▸ predsF_mem cs hc
 rw [← hps] at hpl
 simp only [List.length_nil, Nat.zero_add] at hpl
 refine OTCall_of (n := 47) Tryz.func10 rfl rfl (Nat.le_of_ble_eq_true rfl) fun C0 hdm hT0 => ?_
 have hX0 := CExt.refl C0
 have hT := hT0
 refine Zs fun _ hK1 => ?_
 refine AL_box (Lay.st [.one, .one]) (nf rfl) rfl (by rfl) _ rfl rfl ?_
 iterate 2 refine Za ?_
 refine Zn hK1 ?_
 refine Zs fun _ hK2 => ?_
 refine YL ts27 ta27 ?_
 refine AL_nlcall hT rfl cl16 (hps ▸ c_predsOfN ⟨cs, op⟩ hb) rfl _ rfl rfl ?_
 refine AL_alloc zo25 _ rfl rfl ?_
 refine Ys ts25 ?_
 refine Zn hK2 ?_
 refine Zs fun _ hK3 => ?_
 refine Yl ts25 ta25 ?_
 refine AL_limB (x := (Operand.tmp 13)) rfl rfl (by (simp; done)) fun hl1 => ?_
 refine Ze (Ev_len_ref te25 rfl) ?_
 refine AL_makeSlice .one te30 ts3 zo3 tb3 rfl (by simp only [lim]; omega) (by omega) (by decide) _ rfl rfl ?_
 refine AL_alloc zo30 _ rfl rfl ?_
 refine Ys ts30 ?_
 refine Zn hK3 ?_
 refine Zs fun _ hK4 => ?_
 refine Za ?_
 refine Zn hK4 ?_
 refine AC_block ?_
 refine AC_loopS [] (Int × List Int) (fun st => [(1, .d (.rp LD (injD ⟨cs, op⟩) [])), (4, .ptr .one 1 0 []), (5, .ptr .one 3 0 []), (6, i64 st.1)]) (fun st => [some ⟨9, .one, (strs ps).map V.d⟩, some ⟨25, .one, [.ref .one 0 0 ps.length]⟩, some ⟨3, .one, (ints st.2).map V.d⟩, some ⟨30, .one, [.ref .one 2 0 ps.length]⟩]) (fun st => mL ps.length true st.2) (fun st => BelL ps (· ∈ edI ps cs) st.2 ∧ bdL ps.length ps.length st.2) ((0, List.replicate ps.length 0)) ?_ ?_ ?_
 ·exact enterS [some 2, some 3, some 4, some 5] rfl rfl (BxTo_some rfl rfl rfl rfl (VwL_of (by rfl)) (BxTo_some rfl rfl rfl rfl (.cons (Vw_refe rfl (by rfl)) .nil) (BxTo_some rfl rfl rfl rfl (VwL_of (by simp [ints])) (BxTo_some rfl rfl rfl rfl (.cons (Vw_refe rfl (by rfl)) .nil) BxTo_nil)))) (SlTo_cons (by exact .rd (.ptr (srcFree rfl) rfl rfl rfl .d)) (SlTo_cons (.ptr rfl) (SlTo_cons (.ptr rfl) (SlTo_cons (Vw_int rfl) SlTo_nil))))
 ·exact ⟨BelL_zero rfl, bdL_zero _⟩
 rintro ⟨q, l⟩ ⟨hB, hbd⟩
 simp only at hB hbd
 show AC _ _ _ _ _ (FS [] _ [(1, .d (.rp LD (injD ⟨cs, op⟩) [])), (4, .ptr .one 1 0 []), (5, .ptr .one 3 0 []), (6, i64 q)]) [some ⟨9, .one, (strs ps).map V.d⟩, some ⟨25, .one, [.ref .one 0 0 ps.length]⟩, some ⟨3, .one, (ints l).map V.d⟩, some ⟨30, .one, [.ref .one 2 0 ps.length]⟩]
 refine AC_seq fun _ hK5 => ?_
 refine AC_block ?_
 refine Zs fun _ hK6 => ?_
 refine AL_alloc zo4 _ rfl rfl ?_
 refine Ys ts4 ?_
 refine Zn hK6 ?_
 refine AC_seq fun _ hK7 => ?_
 refine Zs fun _ hK8 => ?_
 refine Yr fa27_0 ?_
 refine Yp ts24 ta24 ?_
 refine AL_lim (x := (Operand.tmp 19)) rfl fun hl2 => ?_
 try simp only [injs_length, ints_length, strs_length, injCs_length, u8s_length, List.length_map] at hl2
 refine Ze (Ev_len_injCs te24 rfl) ?_
 refine Zm ?_
 refine Zn hK8 ?_
 refine AC_block ?_
 refine AC_loopS [] (Nat × List Int × Bool) (fun st => [(1, .d (.rp LD (injD ⟨cs, op⟩) [])), (4, .ptr .one 1 0 []), (5, .ptr .one 3 0 []), (7, .ptr .one 4 0 []), (19, .d (.sl LC (injCs cs))), (20, i64 (cs.length : Int)), (21, i64 ((st.1 : Nat) : Int)), (6, i64 q)]) (fun st => [some ⟨9, .one, (strs ps).map V.d⟩, some ⟨25, .one, [.ref .one 0 0 ps.length]⟩, some ⟨3, .one, (ints st.2.1).map V.d⟩, some ⟨30, .one, [.ref .one 2 0 ps.length]⟩, some ⟨4, .one, [bl st.2.2]⟩]) (fun st => cs.length - st.1) (fun st => st.1 ≤ cs.length ∧ impL ps cs (l, false) = impL ps (cs.drop st.1) (st.2.1, st.2.2) ∧ bdL ps.length (ps.length + szB cs - szB (cs.drop st.1) : Int) st.2.1) ((0, l, false)) ?_ ?_ ?_
 ·exact enterS [some 0, some 1, some 2, some 3, some 4] rfl rfl (BxTo_some rfl rfl rfl rfl (VwL_of (by rfl)) (BxTo_some rfl rfl rfl rfl (.cons (Vw_refe rfl (by rfl)) .nil) (BxTo_some rfl rfl rfl rfl (VwL_of (by rfl)) (BxTo_some rfl rfl rfl rfl (.cons (Vw_refe rfl (by rfl)) .nil) (Bx (.cons (.rd .d) .nil) BxTo_nil))))) (SlTo_cons (by exact .rd .d) (SlTo_cons (.ptr rfl) (SlTo_cons (.ptr rfl) (SlTo_cons (.ptr rfl) (SlTo_cons (.rd .d) (SlTo_cons (.rd .d) (SlTo_cons (Vw_int rfl) Sl_)))))))
 ·exact ⟨Nat.zero_le _, rfl, by simpa using hbd⟩
 rintro ⟨j, l2, c2⟩ ⟨hj, hI, hbd2⟩
 simp only at hj hI hbd2
 show AC _ _ _ _ _ (FS [] _ [(1, .d (.rp LD (injD ⟨cs, op⟩) [])), (4, .ptr .one 1 0 []), (5, .ptr .one 3 0 []), (7, .ptr .one 4 0 []), (19, .d (.sl LC (injCs cs))), (20, i64 (cs.length : Int)), (21, i64 ((j : Nat) : Int)), (6, i64 q)]) [some ⟨9, .one, (strs ps).map V.d⟩, some ⟨25, .one, [.ref .one 0 0 ps.length]⟩, some ⟨3, .one, (ints l2).map V.d⟩, some ⟨30, .one, [.ref .one 2 0 ps.length]⟩, some ⟨4, .one, [bl c2]⟩]
 refine Zs fun _ hK9 => ?_
 refine Ze (Ev_lss rfl rfl) ?_
 refine Zn hK9 ?_
 refine AC_seq fun _ hK10 => ?_
 refine Zc (fun hc1 => ?_) fun hc1 => ?_
 ·have hlt : j < cs.length := by simpa using hc1
  obtain ⟨u, hu⟩ : ∃ x, cs[j]? = some x := ⟨_, List.getElem?_eq_getElem hlt⟩
  have hu2 := injCs_get hu
  have hdr := drop_get hu
  obtain ⟨hbu, hbv, _⟩ := bulkCs_bd (List.mem_of_getElem? hu) hbc
  have hsd := szB_drop cs j
  rw [hdr] at hI hbd2 hsd
  rw [impL] at hI
  rw [szB] at hbd2 hsd
  refine Zk hK10 ?_
  refine AC_seq fun _ hK11 => ?_
  refine AC_block ?_
  refine Zs fun _ hK12 => ?_
  refine Yi te24 ts54 ?_
  refine YP ts54 ta54 ?_
  refine AL_alloc zo54 _ rfl rfl ?_
  refine Ys ts54 ?_
  refine Zn hK12 ?_
  refine AC_seq fun _ hK13 => ?_
  refine Zs fun _ hK14 => ?_
  refine Ya fa54_1 ?_
  refine YL ts41 ta41 ?_
  refine AL_fcall0 hT rfl cl42 (c_termOk u.b (by omega)) rfl rfl ?_
  refine Ze (Ev_not rfl) ?_
  refine Zn hK14 ?_
  refine Zc (fun hc2 => ?_) fun hc2 => ?_
  ·have hok : okT u.b = false := by simpa using hc2
   have hnx : j + 1 ≤ cs.length ∧ impL ps cs (l, false) = impL ps (cs.drop (j + 1)) (l2, c2) ∧ bdL ps.length (ps.length + szB cs - szB (cs.drop (j + 1)) : Int) l2 := ⟨hlt, by rw [hI, impCl, if_neg (by rw [hok]; decide)], hbd2.mono (by push_cast; omega)⟩
   refine Zx hK11 ?_
   refine AC_region ?_
   refine Ze (Ev_add rfl rfl _ (wrap_id (by omega) (by omega))) ?_
   refine Zm ?_
   refine AL_nil ?_
   first
    | refine closeS (j + 1, l2, c2) [some 0, some 1, some 2, some 3, some 4] rfl rfl (by show cs.length - (j + 1) < cs.length - j; omega) hnx (BxTo_some rfl rfl rfl rfl (VwL_of (by rfl)) (BxTo_some rfl rfl rfl rfl (.cons (Vw_refe rfl (by rfl)) .nil) (BxTo_some rfl rfl rfl rfl (VwL_of (by rfl)) (BxTo_some rfl rfl rfl rfl (.cons (Vw_refe rfl (by rfl)) .nil) (Bx (.cons (.rd .d) .nil) BxTo_nil))))) (SlTo_cons (by exact .rd .d) (SlTo_cons (.ptr rfl) (SlTo_cons (.ptr rfl) (SlTo_cons (.ptr rfl) (SlTo_cons (.rd .d) (SlTo_cons (.rd .d) (SlTo_cons (Vw_int (by push_cast; rfl)) Sl_)))))))
    | refine closeS (j + 1, l3, c3) [some 0, some 1, some 2, some 3, some 4] rfl rfl (by show cs.length - (j + 1) < cs.length - j; omega) hnx (BxTo_some rfl rfl rfl rfl (VwL_of (by first | rfl | simp)) (BxTo_some rfl rfl rfl rfl (.cons (Vw_refe rfl (by first | rfl | simp)) .nil) (BxTo_some rfl rfl rfl rfl (VwL_of (by rfl)) (BxTo_some rfl rfl rfl rfl (.cons (Vw_refe rfl (by first | rfl | simp)) .nil) (Bx (.cons (.rd .d) .nil) BxTo_nil))))) (SlTo_cons (by first | exact .rd (.ptr (srcFree rfl) rfl rfl rfl .d) | exact .rd .d) (SlTo_cons (.ptr rfl) (SlTo_cons (.ptr rfl) (SlTo_cons (.ptr rfl) (SlTo_cons (.rd .d) (SlTo_cons (.rd .d) (SlTo_cons (Vw_int (by push_cast; rfl)) Sl_)))))))
  ·have hok : okT u.b = true := by simpa using hc2
   obtain ⟨hat, hat2, _⟩ := idxP_mem hpn (hpm u (List.mem_of_getElem? hu))
   obtain ⟨at0, hat0⟩ : ∃ at0 : Nat, at0 = (idxP ps (predS u.h)).toNat := ⟨_, rfl⟩
   rw [← hat0] at hat
   have hat3 : idxS ps (predS u.h) 0 = ((at0 : Nat) : Int) := by unfold idxP at hat0 hat2; omega
   obtain ⟨⟨l3, c3⟩, hre⟩ : ∃ r, eachF (rlx ps at0) u.b false (l2, c2) = r := ⟨_, rfl⟩
   have hcl : impCl ps u (l2, c2) = (l3, c3) := by rw [impCl, if_pos hok, ← hat0]; exact hre
   have hlen2 := hbd2.1
   have hb3 := impCl_bdL (ps := ps) (c := u) (a := (l2, c2)) hbd2 (by omega)
   rw [hcl] at hb3
   have hnx : j + 1 ≤ cs.length ∧ impL ps cs (l, false) = impL ps (cs.drop (j + 1)) (l3, c3) ∧ bdL ps.length (ps.length + szB cs - szB (cs.drop (j + 1)) : Int) l3 := ⟨hlt, by rw [hI, hcl], hb3.mono (by push_cast; omega)⟩
   refine Zk hK13 ?_
   refine AC_seq fun _ hK15 => ?_
   refine AC_draw hT follows [0, 1, 2, 3, 4, 5, 6] (by kernel_rfl) ?_
   refine DT_ev rfl (EA_load_ptr rfl rfl rfl rfl rfl rfl ts25 ta25 rfl (fun _ => rfl)) rfl ?_
   refine DT_ev rfl (EA_fa_ptr rfl fa54_0 rfl rfl) rfl ?_
   refine DT_ev rfl (EA_load_ptr rfl rfl rfl rfl rfl rfl ts41 ta41 (by simp) (by intro h; cases h)) rfl ?_
   refine DT_fcall0 rfl rfl cl44 (c_predOf u.h (by omega)) rfl rfl ?_
   refine DT_qcallL rfl rfl cl43 (c_indexS ps (predS u.h)) (fun C2 => (.cons (.rd (.ref trivial rfl rfl (by (simp; done)) (ReadsL_d _))) (.cons (.rd .d) .nil))) rfl ?_
   refine DT_alloc rfl tz3 rfl rfl (by kernel_rfl) fun Ca1 ba1 hxa1 hba1 hla1 => ?_
   have hTa1 := hT
   have hT := hT.ext hxa1
   refine DT_zstore hxa1 rfl (by kernel_rfl) rfl rfl hba1 hla1 ts3 rfl _ rfl ?_
   have hT := hTa1
   refine hK15 _ _ _ ?_
   refine AC_region ?_
   refine Ya fa54_1 ?_
   refine YL ts41 ta41 ?_
   refine Ze (Ev_funcV rfl rfl) ?_
   refine AL_hstay hT [1, 0, 3, 2, 6, 4] [⟨25, .one, [.ref .one 0 0 ps.length]⟩, ⟨9, .one, (strs ps).map V.d⟩, ⟨30, .one, [.ref .one 2 0 ps.length]⟩, ⟨3, .one, (ints l3).map V.d⟩, ⟨3, .one, [i64 ((at0 : Nat) : Int)]⟩, ⟨4, .one, [bl c3]⟩] rfl cl45 (c_levEach ps at0 hat u.b l2 l3 c2 c3 (by omega) hbd2.good (by have := hbd2.sup (by omega); omega) hre) ?_ rfl rfl rfl ?_ rfl ?_ [.any] (.cons .any .nil) rfl ?_
   ·exact .cons .d (.cons .d (.cons (.fn (.cons (.ptr rfl) (.cons (.ptr rfl) (.cons (.ptr rfl) (.cons (.ptr rfl) .nil))))) .nil))
   ·exact (BxI_cons rfl rfl rfl rfl rfl (.cons (.ref rfl) .nil) (BxI_cons rfl rfl rfl rfl rfl (VxL_d _) (BxI_cons rfl rfl rfl rfl rfl (.cons (.ref rfl) .nil) (BxI_cons rfl rfl rfl rfl rfl (VxL_d _) (BxI_cons rfl rfl rfl rfl rfl (.cons (by (rw [hat3]; exact .d)) .nil) (BxI_cons rfl rfl rfl rfl rfl (.cons .d .nil) BxI_nil))))))
   ·exact (BxP_cons rfl rfl (.cons (.ref rfl) .nil) rfl (BxP_cons rfl rfl (VxL_d _) rfl (BxP_cons rfl rfl (.cons (.ref rfl) .nil) rfl (BxP_cons rfl rfl (VxL_d _) rfl (BxP_cons rfl rfl (.cons .d .nil) rfl (BxP_cons rfl rfl (.cons .d .nil) rfl BxP_nil))))))
   refine Zn hK11 ?_
   refine AC_region ?_
   refine Ze (Ev_add rfl rfl _ (wrap_id (by omega) (by omega))) ?_
   refine Zm ?_
   refine AL_nil ?_
   first
    | refine closeS (j + 1, l2, c2) [some 0, some 1, some 2, some 3, some 4] rfl rfl (by show cs.length - (j + 1) < cs.length - j; omega) hnx (BxTo_some rfl rfl rfl rfl (VwL_of (by first | rfl | simp)) (BxTo_some rfl rfl rfl rfl (.cons (Vw_refe rfl (by first | rfl | simp)) .nil) (BxTo_some rfl rfl rfl rfl (VwL_of (by rfl)) (BxTo_some rfl rfl rfl rfl (.cons (Vw_refe rfl (by first | rfl | simp)) .nil) (Bx (.cons (.rd .d) .nil) BxTo_nil))))) (SlTo_cons (by first | exact .rd (.ptr (srcFree rfl) rfl rfl rfl .d) | exact .rd .d) (SlTo_cons (.ptr rfl) (SlTo_cons (.ptr rfl) (SlTo_cons (.ptr rfl) (SlTo_cons (.rd .d) (SlTo_cons (.rd .d) (SlTo_cons (Vw_int (by push_cast; rfl)) Sl_)))))))
    | refine closeS (j + 1, l3, c3) [some 0, some 1, some 2, some 3, some 4] rfl rfl (by show cs.length - (j + 1) < cs.length - j; omega) hnx (BxTo_some rfl rfl rfl rfl (VwL_of (by rfl)) (BxTo_some rfl rfl rfl rfl (.cons (Vw_refe rfl (by rfl)) .nil) (BxTo_some rfl rfl rfl rfl (VwL_of (by rfl)) (BxTo_some rfl rfl rfl rfl (.cons (Vw_refe rfl (by rfl)) .nil) (Bx (.cons (.rd .d) .nil) BxTo_nil))))) (SlTo_cons (by exact .rd .d) (SlTo_cons (.ptr rfl) (SlTo_cons (.ptr rfl) (SlTo_cons (.ptr rfl) (SlTo_cons (.rd .d) (SlTo_cons (.rd .d) (SlTo_cons (Vw_int (by push_cast; rfl)) Sl_)))))))
 ·have hj2 : j = cs.length := by have := of_decide_eq_false hc1; omega
  subst hj2
  rw [List.drop_length, impL] at hI
  have hRE := round_end hpn hpm hB hI
  refine Zx hK7 ?_
  refine AC_seq fun _ hK16 => ?_
  refine Zs fun _ hK17 => ?_
  refine Yl ts4 ta4 ?_
  refine Ze (Ev_not rfl) ?_
  refine Zn hK17 ?_
  refine Zc (fun hc3 => ?_) fun hc3 => ?_
  ·have hc2f : c2 = false := by simpa using hc3
   obtain ⟨hS, rfl⟩ := hRE.2.1 hc2f
   have hRL : levOf ⟨cs, op⟩ = (l2, true) := levOf_eq' (d := ⟨cs, op⟩) hps (.inl ⟨rfl, hS, hRE.1, fun q => (hbd.2 q).2⟩)
   have hlen2 := hbd.1
   refine Zs fun _ hK18 => ?_
   refine Yl ts30 ta30 ?_
   iterate 2 refine Za ?_
   refine Zn hK18 ?_
   refine AC_ret ?_
   exact rett_eq [.bool true] hX0 hdm (.tmp rfl rfl (.tmp rfl rfl .nil)) (.ref rfl rfl rfl (by (simp; omega)) (OwVs_ints (by omega)) (by simp)) (congrArg (fun q => ints q.1) hRL) (congrArg (fun q => [Value.bool q.2]) hRL)
  ·have hc2t : c2 = true := by simpa using hc3
   have hlts := hRE.2.2 hc2t
   have hlen2 := hbd2.1
   have hne := sum_ne hlts hB.nn
   refine Zk hK16 ?_
   refine AC_seq fun _ hK19 => ?_
   refine AC_draw hT follows [0, 1, 2, 3, 4] (by kernel_rfl) ?_
   refine DT_ev rfl (EA_load_ptr rfl rfl rfl rfl rfl rfl ts30 ta30 rfl (fun _ => rfl)) rfl ?_
   refine DT_qcallL rfl rfl cl47 (c_maxN l2 hne) (fun C2 => (.cons (.rd (.ref trivial rfl rfl (by (simp; omega)) (ReadsL_d _))) .nil)) rfl ?_
   refine DT_ev rfl (EA_load_ptr rfl rfl rfl rfl rfl rfl ts25 ta25 rfl (fun _ => rfl)) rfl ?_
   refine DT_ev rfl (EA_len_ref te25 rfl) rfl ?_
   refine DT_ev rfl (EA_gtr rfl rfl) rfl ?_
   refine Zd hK19 ?_
   refine Zc (fun hc4 => ?_) fun hc4 => ?_
   ·have hRL : levOf ⟨cs, op⟩ = ([], false) := levOf_eq' (d := ⟨cs, op⟩) hps (.inr ⟨rfl, l2, hRE.1, by
     obtain ⟨i, _, h⟩ := (maxF_ge (B := ps.length) hne).1 (of_decide_eq_true hc4)
     exact ⟨i, h⟩⟩)
    refine Zs fun _ hK20 => ?_
    iterate 2 refine Za ?_
    refine Zn hK20 ?_
    refine AC_ret ?_
    exact rett_eq [.bool false] hX0 hdm (.tmp rfl rfl (.tmp rfl rfl .nil)) .nil (congrArg (fun q => ints q.1) hRL) (congrArg (fun q => [Value.bool q.2]) hRL)
   ·have hbd3 : bdL ps.length ps.length l2 := ⟨hlen2, fun q => ⟨(hbd2.2 q).1, by
     by_cases hq : (ps.length : Int) < l2.getD q 0
     ·have hql : q < l2.length := by
       by_cases h : q < l2.length
       ·exact h
       ·rw [List.getD_eq_getElem?_getD, List.getElem?_eq_none (by omega)] at hq
        simp only [Option.getD_none] at hq
        omega
      exact absurd ((maxF_ge hne).2 ⟨q, hql, hq⟩) (of_decide_eq_false hc4)
     ·omega⟩⟩
    have hml := mL_lt (ch := true) (fun _ => hlts) hbd3
    refine Zk hK5 ?_
    refine AC_region ?_
    refine Zm ?_
    refine Ze (Ev_add rfl rfl _ rfl) ?_
    refine Za ?_
    refine AL_nil ?_
    refine closeS (IntKind.i64.wrap (q + 1), l2) [some 0, some 1, some 2, some 3] rfl rfl (by show mL ps.length true l2 < mL ps.length true l; exact hml) ⟨hRE.1, hbd3⟩ (BxTo_some rfl rfl rfl rfl (VwL_of (by rfl)) (BxTo_some rfl rfl rfl rfl (.cons (Vw_refe rfl (by rfl)) .nil) (BxTo_some rfl rfl rfl rfl (VwL_of (by rfl)) (BxTo_some rfl rfl rfl rfl (.cons (Vw_refe rfl (by rfl)) .nil) BxTo_nil)))) (SlTo_cons (by exact .rd .d) (SlTo_cons (.ptr rfl) (SlTo_cons (.ptr rfl) (SlTo_cons (Vw_int rfl) SlTo_nil))))
end Go.Proofs.YtjgliechbnommaaGreatDoor
set_option linter.unusedVariables false
set_option linter.unusedSimpArgs false
namespace Go.Proofs.YtjgliechbnommaaGreatDoor
open Go.Eng
theorem cl135 : Callable Tryz.prog 135 := Zq Tryz.func135
theorem cl154 : Callable Tryz.prog 154 := Zq Tryz.func154
theorem cl155 : Callable Tryz.prog 155 := Zq Tryz.func155
theorem cl157 : Callable Tryz.prog 157 := Zq Tryz.func157
theorem cl160 : Callable Tryz.prog 160 := Zq Tryz.func160
theorem cl171 : Callable Tryz.prog 171 := Zq Tryz.func171
set_option maxHeartbeats 1000000 in
set_option maxRecDepth 4000 in
theorem c_symbol (n : Int) : PCall Tryz.prog 160 [.c (.int .u8 n)] (· = [.c (.bool (symB n))]) := by
 have hsy : symB n = symL (bts ⟨#[43, 45, 42, 47, 92, 94, 60, 62, 61, 126, 58, 46, 63, 64, 35, 38, 36]⟩) n := rfl
 refine PCall_of (n := 16) Tryz.func160 rfl rfl (Nat.le_of_ble_eq_true rfl) fun C hdm hT0 => ?_
 have hT := hT0
 refine Zs fun _ hK1 => ?_
 refine Za ?_
 refine Zn hK1 ?_
 refine Zs fun _ hK2 => ?_
 refine Za ?_
 refine Zn hK2 ?_
 refine AC_seq fun _ hK3 => ?_
 refine Zs fun _ hK4 => ?_
 refine Za ?_
 refine Zn hK4 ?_
 refine AC_block ?_
 refine AC_loopS [0, 3] (Nat) (fun j => [(4, i64 j)]) (fun j => []) (fun st => (bts ⟨#[43, 45, 42, 47, 92, 94, 60, 62, 61, 126, 58, 46, 63, 64, 35, 38, 36]⟩).length - st) (fun j => j ≤ (bts ⟨#[43, 45, 42, 47, 92, 94, 60, 62, 61, 126, 58, 46, 63, 64, 35, 38, 36]⟩).length ∧ symL (bts ⟨#[43, 45, 42, 47, 92, 94, 60, 62, 61, 126, 58, 46, 63, 64, 35, 38, 36]⟩) n = symL ((bts ⟨#[43, 45, 42, 47, 92, 94, 60, 62, 61, 126, 58, 46, 63, 64, 35, 38, 36]⟩).drop j) n) (0) ?_ ?_ ?_
 ·exact enterS [] rfl rfl BxTo_nil Sl_
 ·exact ⟨Nat.zero_le _, by simp⟩
 rintro j ⟨hj, hI⟩
 show AC _ _ _ _ _ (FS [0, 3] _ [(4, i64 j)]) []
 have hlb : (bts ⟨#[43, 45, 42, 47, 92, 94, 60, 62, 61, 126, 58, 46, 63, 64, 35, 38, 36]⟩).length ≤ 1099511627776 := by rw [bts_len]; decide
 refine AC_seq fun _ hK5 => ?_
 refine Zs fun _ hK6 => ?_
 iterate 2 refine Zm ?_
 refine Ze (Ev_len_str tstr9 rfl) ?_
 refine Ze (Ev_lss rfl rfl) ?_
 refine Zn hK6 ?_
 refine Zc (fun hc1 => ?_) fun hc1 => ?_
 ·have hlt : j < (bts ⟨#[43, 45, 42, 47, 92, 94, 60, 62, 61, 126, 58, 46, 63, 64, 35, 38, 36]⟩).length := by simpa using hc1
  obtain ⟨u, hu⟩ : ∃ x, (bts ⟨#[43, 45, 42, 47, 92, 94, 60, 62, 61, 126, 58, 46, 63, 64, 35, 38, 36]⟩)[j]? = some x := ⟨_, List.getElem?_eq_getElem hlt⟩
  have hu2 := bts_get hu
  have hdr := drop_get hu
  refine Zk hK5 ?_
  refine AC_seq fun _ hK7 => ?_
  refine AC_block ?_
  refine Zs fun _ hK8 => ?_
  iterate 2 refine Zm ?_
  refine Ze (Ev_ix_str tstr9 rfl rfl (by omega) (by assumption)) ?_
  refine Zm ?_
  refine Ze (Ev_eql rfl rfl) ?_
  refine Zn hK8 ?_
  refine Zc (fun hc2 => ?_) fun hc2 => ?_
  ·refine Zs fun _ hK9 => ?_
   refine Za ?_
   refine Zn hK9 ?_
   refine AC_ret ?_
   refine Zr hdm ?_
   try rw [hsy]
   try rw [hI]
   try rw [hdr]
   try simp_all [List.length_pos_iff, symL]
  ·refine Zk hK7 ?_
   refine AC_region ?_
   refine Zm ?_
   refine Ze (Ev_add rfl rfl _ (wrap_id (by omega) (by omega))) ?_
   refine Za ?_
   refine AL_nil ?_
   refine closeS (j + 1) [] rfl rfl (by show (bts ⟨#[43, 45, 42, 47, 92, 94, 60, 62, 61, 126, 58, 46, 63, 64, 35, 38, 36]⟩).length - (j + 1) < (bts ⟨#[43, 45, 42, 47, 92, 94, 60, 62, 61, 126, 58, 46, 63, 64, 35, 38, 36]⟩).length - j; omega) ⟨hlt, ?_⟩ BxTo_nil Sl_
   rw [hI]
   try rw [hdr]
   try simp_all [symL]
 ·have hj2 : j = (bts ⟨#[43, 45, 42, 47, 92, 94, 60, 62, 61, 126, 58, 46, 63, 64, 35, 38, 36]⟩).length := by
   have : ¬ j < (bts ⟨#[43, 45, 42, 47, 92, 94, 60, 62, 61, 126, 58, 46, 63, 64, 35, 38, 36]⟩).length := by simpa using hc1
   omega
  subst hj2
  rw [List.drop_length] at hI
  refine Zx hK3 ?_
  refine Zs fun _ hK10 => ?_
  refine Za ?_
  refine Zn hK10 ?_
  refine AC_ret ?_
  refine Zr hdm ?_
  try rw [hsy]
  try rw [hI]
  try simp_all [List.length_pos_iff, symL]
set_option maxHeartbeats 1000000 in
set_option maxRecDepth 4000 in
theorem c_small (n : Int) : PCall Tryz.prog 154 [.c (.int .u8 n)] (· = [.c (.bool (smallB n))]) := by
 refine PCall_of (n := 9) Tryz.func154 rfl rfl (Nat.le_of_ble_eq_true rfl) fun C hdm hT0 => ?_
 have hT := hT0
 refine Zs fun _ hK1 => ?_
 refine Za ?_
 refine Zn hK1 ?_
 refine Zs fun _ hK2 => ?_
 refine Zm ?_
 refine Ze (Ev_geq rfl rfl) ?_
 refine Zm ?_
 refine Zb 5 (fun hg1 => ?_) fun hg1 => ?_
 ·refine Zt ?_
  refine Zm ?_
  refine Zt ?_
  refine Ze (Ev_leq rfl rfl) ?_
  refine Zp ?_
  refine Za ?_
  refine Zn hK2 ?_
  refine AC_ret ?_
  refine Zr hdm ?_
  (simp_all [smallB]; done)
 ·iterate 2 refine Zg ?_
  refine Zp ?_
  refine Za ?_
  refine Zn hK2 ?_
  refine AC_ret ?_
  refine Zr hdm ?_
  (simp_all [smallB]; omega)
set_option maxHeartbeats 1000000 in
set_option maxRecDepth 4000 in
theorem c_great (n : Int) : PCall Tryz.prog 155 [.c (.int .u8 n)] (· = [.c (.bool (greatB n))]) := by
 refine PCall_of (n := 13) Tryz.func155 rfl rfl (Nat.le_of_ble_eq_true rfl) fun C hdm hT0 => ?_
 have hT := hT0
 refine Zs fun _ hK1 => ?_
 refine Za ?_
 refine Zn hK1 ?_
 refine Zs fun _ hK2 => ?_
 refine Zm ?_
 refine Ze (Ev_geq rfl rfl) ?_
 refine Zm ?_
 refine Zb 5 (fun hg1 => ?_) fun hg1 => ?_
 ·refine Zt ?_
  refine Zm ?_
  refine Zt ?_
  refine Ze (Ev_leq rfl rfl) ?_
  refine Zp ?_
  refine Zm ?_
  refine Zb 9 (fun hg2 => ?_) fun hg2 => ?_
  ·iterate 2 refine Zg ?_
   refine Zp ?_
   refine Za ?_
   refine Zn hK2 ?_
   refine AC_ret ?_
   refine Zr hdm ?_
   (simp_all [greatB]; done)
  ·refine Zt ?_
   refine Zm ?_
   refine Zt ?_
   refine Ze (Ev_eql rfl rfl) ?_
   refine Zp ?_
   refine Za ?_
   refine Zn hK2 ?_
   refine AC_ret ?_
   refine Zr hdm ?_
   (simp_all [greatB]; omega)
 ·iterate 2 refine Zg ?_
  refine Zp ?_
  refine Zm ?_
  refine Zt ?_
  refine Zm ?_
  refine Zt ?_
  refine Ze (Ev_eql rfl rfl) ?_
  refine Zp ?_
  refine Za ?_
  refine Zn hK2 ?_
  refine AC_ret ?_
  refine Zr hdm ?_
  (simp_all [greatB]; omega)
set_option maxHeartbeats 1000000 in
set_option maxRecDepth 4000 in
theorem c_fig (n : Int) : PCall Tryz.prog 157 [.c (.int .u8 n)] (· = [.c (.bool (figB n))]) := by
 refine PCall_of (n := 9) Tryz.func157 rfl rfl (Nat.le_of_ble_eq_true rfl) fun C hdm hT0 => ?_
 have hT := hT0
 refine Zs fun _ hK1 => ?_
 refine Za ?_
 refine Zn hK1 ?_
 refine Zs fun _ hK2 => ?_
 refine Zm ?_
 refine Ze (Ev_geq rfl rfl) ?_
 refine Zm ?_
 refine Zb 5 (fun hg1 => ?_) fun hg1 => ?_
 ·refine Zt ?_
  refine Zm ?_
  refine Zt ?_
  refine Ze (Ev_leq rfl rfl) ?_
  refine Zp ?_
  refine Za ?_
  refine Zn hK2 ?_
  refine AC_ret ?_
  refine Zr hdm ?_
  (simp_all [figB]; done)
 ·iterate 2 refine Zg ?_
  refine Zp ?_
  refine Za ?_
  refine Zn hK2 ?_
  refine AC_ret ?_
  refine Zr hdm ?_
  (simp_all [figB]; omega)
set_option maxHeartbeats 1000000 in
set_option maxRecDepth 4000 in
theorem c_blank (n : Int) : PCall Tryz.prog 135 [.c (.int .u8 n)] (· = [.c (.bool (blankB n))]) := by
 refine PCall_of (n := 13) Tryz.func135 rfl rfl (Nat.le_of_ble_eq_true rfl) fun C hdm hT0 => ?_
 have hT := hT0
 refine Zs fun _ hK1 => ?_
 refine Za ?_
 refine Zn hK1 ?_
 refine Zs fun _ hK2 => ?_
 refine Zm ?_
 refine Ze (Ev_eql rfl rfl) ?_
 refine Zm ?_
 refine Zb 5 (fun hg1 => ?_) fun hg1 => ?_
 ·iterate 2 refine Zg ?_
  refine Zp ?_
  refine Zm ?_
  iterate 2 refine Zg ?_
  refine Zp ?_
  refine Za ?_
  refine Zn hK2 ?_
  refine AC_ret ?_
  refine Zr hdm ?_
  (simp_all [blankB]; done)
 ·refine Zt ?_
  refine Zm ?_
  refine Zt ?_
  refine Ze (Ev_eql rfl rfl) ?_
  refine Zp ?_
  refine Zm ?_
  refine Zb 9 (fun hg2 => ?_) fun hg2 => ?_
  ·iterate 2 refine Zg ?_
   refine Zp ?_
   refine Za ?_
   refine Zn hK2 ?_
   refine AC_ret ?_
   refine Zr hdm ?_
   (simp_all [blankB]; done)
  ·refine Zt ?_
   refine Zm ?_
   refine Zt ?_
   refine Ze (Ev_eql rfl rfl) ?_
   refine Zp ?_
   refine Za ?_
   refine Zn hK2 ?_
   refine AC_ret ?_
   refine Zr hdm ?_
   (simp_all [blankB]; done)
set_option maxHeartbeats 1000000 in
set_option maxRecDepth 4000 in
theorem c_word (n : Int) : PCall Tryz.prog 171 [.c (.int .u8 n)] (· = [.c (.bool (wordB n))]) := by
 refine PCall_of (n := 13) Tryz.func171 rfl rfl (Nat.le_of_ble_eq_true rfl) fun C hdm hT0 => ?_
 have hT := hT0
 refine Zs fun _ hK1 => ?_
 refine Za ?_
 refine Zn hK1 ?_
 refine Zs fun _ hK2 => ?_
 refine Zm ?_
 refine AL_fcall0 hT rfl cl154 (c_small n) rfl rfl ?_
 refine Zm ?_
 refine Zb 5 (fun hg1 => ?_) fun hg1 => ?_
 ·iterate 2 refine Zg ?_
  refine Zp ?_
  refine Zm ?_
  iterate 2 refine Zg ?_
  refine Zp ?_
  refine Za ?_
  refine Zn hK2 ?_
  refine AC_ret ?_
  refine Zr hdm ?_
  (simp_all [wordB]; done)
 ·refine Zt ?_
  refine Zm ?_
  refine Zt ?_
  refine AL_fcall0 hT rfl cl155 (c_great n) rfl rfl ?_
  refine Zp ?_
  refine Zm ?_
  refine Zb 9 (fun hg2 => ?_) fun hg2 => ?_
  ·iterate 2 refine Zg ?_
   refine Zp ?_
   refine Za ?_
   refine Zn hK2 ?_
   refine AC_ret ?_
   refine Zr hdm ?_
   (simp_all [wordB]; done)
  ·refine Zt ?_
   refine Zm ?_
   refine Zt ?_
   refine AL_fcall0 hT rfl cl157 (c_fig n) rfl rfl ?_
   refine Zp ?_
   refine Za ?_
   refine Zn hK2 ?_
   refine AC_ret ?_
   refine Zr hdm ?_
   (simp_all [wordB]; done)
set_option maxHeartbeats 1000000 in
set_option maxRecDepth 4000 in
theorem c_run (t : ByteArray) (i : Nat) (hs : t.size ≤ 1099511627776) (hi : i ≤ t.size) : PCall Tryz.prog 156 [.c (.string t), .c (.int .i64 ((i : Nat) : Int))] (· = [.c (.int .i64 ((i + runL wordB ((bts t).drop i) : Nat) : Int))]) := by
 refine PCall_of (n := 18) Tryz.func156 rfl rfl (Nat.le_of_ble_eq_true rfl) fun C hdm hT0 => ?_
 have hT := hT0
 refine Zs fun _ hK1 => ?_
 refine Za ?_
 refine Zn hK1 ?_
 refine AC_seq fun _ hK2 => ?_
 refine AC_block ?_
 refine AC_loopS [0] (Nat) (fun j => [(1, i64 ((j : Nat) : Int))]) (fun j => []) (fun st => t.size - st) (fun j => (i ≤ j ∧ j ≤ t.size ∧ i + runL wordB ((bts t).drop i) = j + runL wordB ((bts t).drop j))) (i) ?_ ?_ ?_
 ·exact enterS [] rfl rfl BxTo_nil Sl_
 ·exact ⟨Nat.le_refl _, by omega, rfl⟩
 rintro j ⟨hj0, hj1, hI⟩
 show AC _ _ _ _ _ (FS [0] _ [(1, i64 ((j : Nat) : Int))]) []
 refine AC_seq fun _ hK3 => ?_
 refine Zs fun _ hK4 => ?_
 iterate 2 refine Zm ?_
 refine Ze (Ev_len_str tstr9 rfl) ?_
 refine Ze (Ev_lss rfl rfl) ?_
 refine Zm ?_
 refine Zb 9 (fun hg1 => ?_) fun hg1 => ?_
 ·have hlt : j < t.size := by have := of_decide_eq_true hg1; omega
  have hjbu : j < (bts t).length := by rw [bts_len]; omega
  refine Exists.elim (show ∃ v, (bts t)[j]? = some v from ⟨_, List.getElem?_eq_getElem hjbu⟩) fun u hu => ?_
  have hu2 := bts_get hu
  have hub := UInt8.toNat_lt u
  have hdr := drop_get hu
  refine Zt ?_
  refine Zm ?_
  refine Zt ?_
  refine Zm ?_
  refine Zt ?_
  refine Ze (Ev_ix_str tstr9 rfl rfl (by omega) (by assumption)) ?_
  refine Zt ?_
  refine AL_fcall0 hT rfl cl171 (c_word (u.toNat : Int)) rfl rfl ?_
  refine Zp ?_
  refine Zn hK4 ?_
  refine Zc (fun hc2 => ?_) fun hc2 => ?_
  ·refine Zk hK3 ?_
   refine AC_block ?_
   refine AC_region ?_
   refine Zm ?_
   refine Ze (Ev_add rfl rfl _ (wrap_id (by omega) (by omega))) ?_
   refine Za ?_
   refine AL_nil ?_
   refine closeS (j + 1) [] rfl rfl (by show t.size - (j + 1) < t.size - j; omega) ?_ BxTo_nil Sl_
   exact ⟨by omega, by omega, by rw [hI, hdr]; simp_all [runL]; omega⟩
  ·have hI2 : i + runL wordB ((bts t).drop i) = j := by rw [hI, hdr]; simp_all [runL]
   refine Zx hK2 ?_
   refine Zs fun _ hK5 => ?_
   refine Zm ?_
   refine Za ?_
   refine Zn hK5 ?_
   refine AC_ret ?_
   refine Zr hdm ?_
   rw [hI2]
 ·have hge : t.size ≤ j := by have := of_decide_eq_false hg1; omega
  have hI2 : i + runL wordB ((bts t).drop i) = j := by rw [hI, List.drop_eq_nil_of_le (by simp; omega)]; rfl
  iterate 4 refine Zg ?_
  refine Zp ?_
  refine Zn hK4 ?_
  refine AC_cond_f rfl ?_
  refine Zx hK2 ?_
  refine Zs fun _ hK6 => ?_
  refine Zm ?_
  refine Za ?_
  refine Zn hK6 ?_
  refine AC_ret ?_
  refine Zr hdm ?_
  rw [hI2]
set_option maxHeartbeats 1000000 in
set_option maxRecDepth 4000 in
theorem c_end (t : ByteArray) (i : Nat) (u : UInt8) (hs : t.size ≤ 1099511627776) (hu : (bts t)[i]? = some u) : PCall Tryz.prog 159 [.c (.string t), .c (.int .i64 ((i : Nat) : Int))] (· = [.c (.bool (endB t i))]) := by
 have hu2 := bts_get hu
 have hlt : i < t.size := by simpa using lt_of_get hu
 have hub := byteI_get hu
 refine PCall_of (n := 42) Tryz.func159 rfl rfl (Nat.le_of_ble_eq_true rfl) fun C hdm hT0 => ?_
 have hT := hT0
 refine Zs fun _ hK1 => ?_
 refine Za ?_
 refine Zn hK1 ?_
 refine Zs fun _ hK2 => ?_
 iterate 2 refine Zm ?_
 refine Ze (Ev_ix_str tstr9 rfl rfl (by omega) (by assumption)) ?_
 refine Ze (Ev_eql rfl rfl) ?_
 refine Zm ?_
 refine Zb 9 (fun hg1 => ?_) fun hg1 => ?_
 ·first
   | (have h9 : ¬ ((i : Int) + 1 = t.size) := of_decide_eq_false hg1
      have hsz : ¬ (i + 1 = t.size) := by omega
      obtain ⟨z, hz⟩ : ∃ z, (bts t)[i + 1]? = some z := ⟨_, List.getElem?_eq_getElem (by simp; omega)⟩
      have hz2 : t[((i : Int) + 1).toNat]? = some z := by have := bts_get hz; rw [show ((i : Int) + 1).toNat = i + 1 by omega]; simpa using this
      have hzb := byteI_get hz)
   | (have h9 : (i : Int) + 1 = t.size := of_decide_eq_true hg1
      have hsz : i + 1 = t.size := by omega)
   | skip
  refine Zt ?_
  refine Zm ?_
  refine Zt ?_
  refine Ze (Ev_eql rfl rfl) ?_
  refine Zt ?_
  refine Zm ?_
  refine Zb 12 (fun hg2 => ?_) fun hg2 => ?_
  ·first
    | (have h9 : ¬ ((i : Int) + 1 = t.size) := of_decide_eq_false hg2
       have hsz : ¬ (i + 1 = t.size) := by omega
       obtain ⟨z, hz⟩ : ∃ z, (bts t)[i + 1]? = some z := ⟨_, List.getElem?_eq_getElem (by simp; omega)⟩
       have hz2 : t[((i : Int) + 1).toNat]? = some z := by have := bts_get hz; rw [show ((i : Int) + 1).toNat = i + 1 by omega]; simpa using this
       have hzb := byteI_get hz)
    | (have h9 : (i : Int) + 1 = t.size := of_decide_eq_true hg2
       have hsz : i + 1 = t.size := by omega)
    | skip
   iterate 6 refine Zg ?_
   refine Zt ?_
   iterate 2 refine Zp ?_
   refine Zm ?_
   refine Zt ?_
   refine Zm ?_
   refine Zt ?_
   refine Ze (Ev_add rfl rfl _ (wrap_id (by omega) (by omega))) ?_
   refine Zt ?_
   refine Zm ?_
   refine Zt ?_
   refine Ze (Ev_len_str tstr9 rfl) ?_
   refine Zt ?_
   refine Ze (Ev_eql rfl rfl) ?_
   refine Zt ?_
   refine Zm ?_
   refine Zb 27 (fun hg3 => ?_) fun hg3 => ?_
   ·first
     | (have h9 : ¬ ((i : Int) + 1 = t.size) := of_decide_eq_false hg3
        have hsz : ¬ (i + 1 = t.size) := by omega
        obtain ⟨z, hz⟩ : ∃ z, (bts t)[i + 1]? = some z := ⟨_, List.getElem?_eq_getElem (by simp; omega)⟩
        have hz2 : t[((i : Int) + 1).toNat]? = some z := by have := bts_get hz; rw [show ((i : Int) + 1).toNat = i + 1 by omega]; simpa using this
        have hzb := byteI_get hz)
     | (have h9 : (i : Int) + 1 = t.size := of_decide_eq_true hg3
        have hsz : i + 1 = t.size := by omega)
     | skip
    iterate 5 refine Zg ?_
    refine Zt ?_
    refine Zp ?_
    refine Zt ?_
    refine Zm ?_
    iterate 5 refine Zg ?_
    refine Zt ?_
    iterate 2 refine Zp ?_
    refine Za ?_
    refine Zn hK2 ?_
    refine AC_ret ?_
    refine Zr hdm ?_
    (simp_all [endB]; done)
   ·first
     | (have h9 : ¬ ((i : Int) + 1 = t.size) := of_decide_eq_false hg3
        have hsz : ¬ (i + 1 = t.size) := by omega
        obtain ⟨z, hz⟩ : ∃ z, (bts t)[i + 1]? = some z := ⟨_, List.getElem?_eq_getElem (by simp; omega)⟩
        have hz2 : t[((i : Int) + 1).toNat]? = some z := by have := bts_get hz; rw [show ((i : Int) + 1).toNat = i + 1 by omega]; simpa using this
        have hzb := byteI_get hz)
     | (have h9 : (i : Int) + 1 = t.size := of_decide_eq_true hg3
        have hsz : i + 1 = t.size := by omega)
     | skip
    refine Zt ?_
    refine Zm ?_
    refine Zt ?_
    refine Zm ?_
    refine Zt ?_
    refine Ze (Ev_add rfl rfl _ (wrap_id (by omega) (by omega))) ?_
    refine Zt ?_
    refine Ze (Ev_ix_str tstr9 rfl rfl (by omega) (by assumption)) ?_
    refine Zt ?_
    refine AL_fcall0 hT rfl cl135 (c_blank (z.toNat : Int)) rfl rfl ?_
    refine Zt ?_
    refine Zp ?_
    refine Zt ?_
    refine Zm ?_
    refine Zb 34 (fun hg4 => ?_) fun hg4 => ?_
    ·first
      | (have h9 : ¬ ((i : Int) + 1 = t.size) := of_decide_eq_false hg4
         have hsz : ¬ (i + 1 = t.size) := by omega
         obtain ⟨z, hz⟩ : ∃ z, (bts t)[i + 1]? = some z := ⟨_, List.getElem?_eq_getElem (by simp; omega)⟩
         have hz2 : t[((i : Int) + 1).toNat]? = some z := by have := bts_get hz; rw [show ((i : Int) + 1).toNat = i + 1 by omega]; simpa using this
         have hzb := byteI_get hz)
      | (have h9 : (i : Int) + 1 = t.size := of_decide_eq_true hg4
         have hsz : i + 1 = t.size := by omega)
      | skip
     iterate 5 refine Zg ?_
     refine Zt ?_
     iterate 2 refine Zp ?_
     refine Za ?_
     refine Zn hK2 ?_
     refine AC_ret ?_
     refine Zr hdm ?_
     (simp_all [endB]; done)
    ·first
      | (have h9 : ¬ ((i : Int) + 1 = t.size) := of_decide_eq_false hg4
         have hsz : ¬ (i + 1 = t.size) := by omega
         obtain ⟨z, hz⟩ : ∃ z, (bts t)[i + 1]? = some z := ⟨_, List.getElem?_eq_getElem (by simp; omega)⟩
         have hz2 : t[((i : Int) + 1).toNat]? = some z := by have := bts_get hz; rw [show ((i : Int) + 1).toNat = i + 1 by omega]; simpa using this
         have hzb := byteI_get hz)
      | (have h9 : (i : Int) + 1 = t.size := of_decide_eq_true hg4
         have hsz : i + 1 = t.size := by omega)
      | skip
     refine Zt ?_
     refine Zm ?_
     refine Zt ?_
     refine Zm ?_
     refine Zt ?_
     refine Ze (Ev_add rfl rfl _ (wrap_id (by omega) (by omega))) ?_
     refine Zt ?_
     refine Ze (Ev_ix_str tstr9 rfl rfl (by omega) (by assumption)) ?_
     refine Zt ?_
     refine Ze (Ev_eql rfl rfl) ?_
     refine Zt ?_
     iterate 2 refine Zp ?_
     refine Za ?_
     refine Zn hK2 ?_
     refine AC_ret ?_
     refine Zr hdm ?_
     (simp_all [endB]; done)
  ·have hi0 : 0 < i := by have := of_decide_eq_false hg2; omega
   obtain ⟨v, hv⟩ : ∃ v, (bts t)[i - 1]? = some v := ⟨_, List.getElem?_eq_getElem (by simp; omega)⟩
   have hv2 : t[((i : Int) - 1).toNat]? = some v := by have := bts_get hv; rw [show ((i : Int) - 1).toNat = i - 1 by omega]; simpa using this
   have hvb := byteI_get hv
   have hv9 := UInt8.toNat_lt v
   refine Zt ?_
   refine Zm ?_
   refine Zt ?_
   refine Zm ?_
   refine Zt ?_
   refine Ze (Ev_sub rfl rfl _ (wrap_id (by omega) (by omega))) ?_
   refine Zt ?_
   refine Ze (Ev_ix_str tstr9 rfl rfl (by omega) (by assumption)) ?_
   refine Zt ?_
   refine AL_fcall0 hT rfl cl160 (c_symbol (v.toNat : Int)) rfl rfl ?_
   refine Zt ?_
   refine Ze (Ev_not rfl) ?_
   refine Zt ?_
   iterate 2 refine Zp ?_
   refine Zm ?_
   refine Zb 21 (fun hg5 => ?_) fun hg5 => ?_
   ·first
     | (have h9 : ¬ ((i : Int) + 1 = t.size) := of_decide_eq_false hg5
        have hsz : ¬ (i + 1 = t.size) := by omega
        obtain ⟨z, hz⟩ : ∃ z, (bts t)[i + 1]? = some z := ⟨_, List.getElem?_eq_getElem (by simp; omega)⟩
        have hz2 : t[((i : Int) + 1).toNat]? = some z := by have := bts_get hz; rw [show ((i : Int) + 1).toNat = i + 1 by omega]; simpa using this
        have hzb := byteI_get hz)
     | (have h9 : (i : Int) + 1 = t.size := of_decide_eq_true hg5
        have hsz : i + 1 = t.size := by omega)
     | skip
    refine Zt ?_
    refine Zm ?_
    refine Zt ?_
    refine Ze (Ev_add rfl rfl _ (wrap_id (by omega) (by omega))) ?_
    refine Zt ?_
    refine Zm ?_
    refine Zt ?_
    refine Ze (Ev_len_str tstr9 rfl) ?_
    refine Zt ?_
    refine Ze (Ev_eql rfl rfl) ?_
    refine Zt ?_
    refine Zm ?_
    refine Zb 27 (fun hg6 => ?_) fun hg6 => ?_
    ·first
      | (have h9 : ¬ ((i : Int) + 1 = t.size) := of_decide_eq_false hg6
         have hsz : ¬ (i + 1 = t.size) := by omega
         obtain ⟨z, hz⟩ : ∃ z, (bts t)[i + 1]? = some z := ⟨_, List.getElem?_eq_getElem (by simp; omega)⟩
         have hz2 : t[((i : Int) + 1).toNat]? = some z := by have := bts_get hz; rw [show ((i : Int) + 1).toNat = i + 1 by omega]; simpa using this
         have hzb := byteI_get hz)
      | (have h9 : (i : Int) + 1 = t.size := of_decide_eq_true hg6
         have hsz : i + 1 = t.size := by omega)
      | skip
     iterate 5 refine Zg ?_
     refine Zt ?_
     refine Zp ?_
     refine Zt ?_
     refine Zm ?_
     iterate 5 refine Zg ?_
     refine Zt ?_
     iterate 2 refine Zp ?_
     refine Za ?_
     refine Zn hK2 ?_
     refine AC_ret ?_
     refine Zr hdm ?_
     (simp_all [endB]; done)
    ·first
      | (have h9 : ¬ ((i : Int) + 1 = t.size) := of_decide_eq_false hg6
         have hsz : ¬ (i + 1 = t.size) := by omega
         obtain ⟨z, hz⟩ : ∃ z, (bts t)[i + 1]? = some z := ⟨_, List.getElem?_eq_getElem (by simp; omega)⟩
         have hz2 : t[((i : Int) + 1).toNat]? = some z := by have := bts_get hz; rw [show ((i : Int) + 1).toNat = i + 1 by omega]; simpa using this
         have hzb := byteI_get hz)
      | (have h9 : (i : Int) + 1 = t.size := of_decide_eq_true hg6
         have hsz : i + 1 = t.size := by omega)
      | skip
     refine Zt ?_
     refine Zm ?_
     refine Zt ?_
     refine Zm ?_
     refine Zt ?_
     refine Ze (Ev_add rfl rfl _ (wrap_id (by omega) (by omega))) ?_
     refine Zt ?_
     refine Ze (Ev_ix_str tstr9 rfl rfl (by omega) (by assumption)) ?_
     refine Zt ?_
     refine AL_fcall0 hT rfl cl135 (c_blank (z.toNat : Int)) rfl rfl ?_
     refine Zt ?_
     refine Zp ?_
     refine Zt ?_
     refine Zm ?_
     refine Zb 34 (fun hg7 => ?_) fun hg7 => ?_
     ·first
       | (have h9 : ¬ ((i : Int) + 1 = t.size) := of_decide_eq_false hg7
          have hsz : ¬ (i + 1 = t.size) := by omega
          obtain ⟨z, hz⟩ : ∃ z, (bts t)[i + 1]? = some z := ⟨_, List.getElem?_eq_getElem (by simp; omega)⟩
          have hz2 : t[((i : Int) + 1).toNat]? = some z := by have := bts_get hz; rw [show ((i : Int) + 1).toNat = i + 1 by omega]; simpa using this
          have hzb := byteI_get hz)
       | (have h9 : (i : Int) + 1 = t.size := of_decide_eq_true hg7
          have hsz : i + 1 = t.size := by omega)
       | skip
      iterate 5 refine Zg ?_
      refine Zt ?_
      iterate 2 refine Zp ?_
      refine Za ?_
      refine Zn hK2 ?_
      refine AC_ret ?_
      refine Zr hdm ?_
      (simp_all [endB]; done)
     ·first
       | (have h9 : ¬ ((i : Int) + 1 = t.size) := of_decide_eq_false hg7
          have hsz : ¬ (i + 1 = t.size) := by omega
          obtain ⟨z, hz⟩ : ∃ z, (bts t)[i + 1]? = some z := ⟨_, List.getElem?_eq_getElem (by simp; omega)⟩
          have hz2 : t[((i : Int) + 1).toNat]? = some z := by have := bts_get hz; rw [show ((i : Int) + 1).toNat = i + 1 by omega]; simpa using this
          have hzb := byteI_get hz)
       | (have h9 : (i : Int) + 1 = t.size := of_decide_eq_true hg7
          have hsz : i + 1 = t.size := by omega)
       | skip
      refine Zt ?_
      refine Zm ?_
      refine Zt ?_
      refine Zm ?_
      refine Zt ?_
      refine Ze (Ev_add rfl rfl _ (wrap_id (by omega) (by omega))) ?_
      refine Zt ?_
      refine Ze (Ev_ix_str tstr9 rfl rfl (by omega) (by assumption)) ?_
      refine Zt ?_
      refine Ze (Ev_eql rfl rfl) ?_
      refine Zt ?_
      iterate 2 refine Zp ?_
      refine Za ?_
      refine Zn hK2 ?_
      refine AC_ret ?_
      refine Zr hdm ?_
      (simp_all [endB]; done)
   ·first
     | (have h9 : ¬ ((i : Int) + 1 = t.size) := of_decide_eq_false hg5
        have hsz : ¬ (i + 1 = t.size) := by omega
        obtain ⟨z, hz⟩ : ∃ z, (bts t)[i + 1]? = some z := ⟨_, List.getElem?_eq_getElem (by simp; omega)⟩
        have hz2 : t[((i : Int) + 1).toNat]? = some z := by have := bts_get hz; rw [show ((i : Int) + 1).toNat = i + 1 by omega]; simpa using this
        have hzb := byteI_get hz)
     | (have h9 : (i : Int) + 1 = t.size := of_decide_eq_true hg5
        have hsz : i + 1 = t.size := by omega)
     | skip
    iterate 6 refine Zg ?_
    iterate 5 refine Zu ?_
    iterate 2 refine Zg ?_
    iterate 5 refine Zu ?_
    refine Zg ?_
    refine Zp ?_
    refine Za ?_
    refine Zn hK2 ?_
    refine AC_ret ?_
    refine Zr hdm ?_
    (simp_all [endB]; done)
 ·first
   | (have h9 : ¬ ((i : Int) + 1 = t.size) := of_decide_eq_false hg1
      have hsz : ¬ (i + 1 = t.size) := by omega
      obtain ⟨z, hz⟩ : ∃ z, (bts t)[i + 1]? = some z := ⟨_, List.getElem?_eq_getElem (by simp; omega)⟩
      have hz2 : t[((i : Int) + 1).toNat]? = some z := by have := bts_get hz; rw [show ((i : Int) + 1).toNat = i + 1 by omega]; simpa using this
      have hzb := byteI_get hz)
   | (have h9 : (i : Int) + 1 = t.size := of_decide_eq_true hg1
      have hsz : i + 1 = t.size := by omega)
   | skip
  iterate 3 refine Zg ?_
  iterate 6 refine Zu ?_
  refine Zg ?_
  refine Zp ?_
  refine Zm ?_
  iterate 6 refine Zg ?_
  iterate 5 refine Zu ?_
  iterate 2 refine Zg ?_
  iterate 5 refine Zu ?_
  refine Zg ?_
  refine Zp ?_
  refine Za ?_
  refine Zn hK2 ?_
  refine AC_ret ?_
  refine Zr hdm ?_
  (simp_all [endB]; done)
set_option maxHeartbeats 1000000 in
set_option maxRecDepth 4000 in
theorem c_quoted (t : ByteArray) (i : Nat) (hs : t.size ≤ 1099511627776) (hi : i < t.size) : PCall Tryz.prog 158 [.c (.string t), .c (.int .i64 ((i : Nat) : Int))] (· = [.c (.int .i64 ((quoM t i : Nat) : Int))]) := by
 refine PCall_of (n := 26) Tryz.func158 rfl rfl (Nat.le_of_ble_eq_true rfl) fun C hdm hT0 => ?_
 have hT := hT0
 refine Zs fun _ hK1 => ?_
 refine Za ?_
 refine Zn hK1 ?_
 refine AC_seq fun _ hK2 => ?_
 refine Zs fun _ hK3 => ?_
 refine Zm ?_
 refine Ze (Ev_add rfl rfl _ (wrap_id (by omega) (by omega))) ?_
 refine Za ?_
 refine Zn hK3 ?_
 refine AC_block ?_
 refine AC_loopS [0, 1] (Nat) (fun j => [(5, i64 ((j : Nat) : Int))]) (fun j => []) (fun st => t.size - st) (fun j => (i + 1 ≤ j ∧ j ≤ t.size ∧ quoM t i = quoL t i ((bts t).drop j) j)) (i + 1) ?_ ?_ ?_
 ·exact enterS [] rfl rfl BxTo_nil Sl_
 ·exact ⟨Nat.le_refl _, by omega, rfl⟩
 rintro j ⟨hj0, hj1, hI⟩
 show AC _ _ _ _ _ (FS [0, 1] _ [(5, i64 ((j : Nat) : Int))]) []
 refine AC_seq fun _ hK4 => ?_
 refine Zs fun _ hK5 => ?_
 iterate 2 refine Zm ?_
 refine Ze (Ev_len_str tstr9 rfl) ?_
 refine Ze (Ev_lss rfl rfl) ?_
 refine Zn hK5 ?_
 refine Zc (fun hc1 => ?_) fun hc1 => ?_
 ·have hlt : j < t.size := by have := of_decide_eq_true hc1; omega
  have hjbu : j < (bts t).length := by rw [bts_len]; omega
  refine Exists.elim (show ∃ v, (bts t)[j]? = some v from ⟨_, List.getElem?_eq_getElem hjbu⟩) fun u hu => ?_
  have hu2 := bts_get hu
  have hub := UInt8.toNat_lt u
  have hdr := drop_get hu
  refine Zk hK4 ?_
  refine AC_seq fun _ hK6 => ?_
  refine AC_block ?_
  refine Zs fun _ hK7 => ?_
  iterate 2 refine Zm ?_
  refine Ze (Ev_ix_str tstr9 rfl rfl (by omega) (by assumption)) ?_
  refine Ze (Ev_eql rfl rfl) ?_
  refine Zn hK7 ?_
  refine Zc (fun hc2 => ?_) fun hc2 => ?_
  ·refine AC_seq fun _ hK8 => ?_
   refine Zs fun _ hK9 => ?_
   iterate 2 refine Zm ?_
   refine Ze (Ev_add rfl rfl _ (wrap_id (by omega) (by omega))) ?_
   refine Zm ?_
   refine Ze (Ev_slice_str tstr9 rfl rfl rfl (by omega) (by omega) (by omega)) ?_
   refine AL_fcall0 hT rfl cl147 (c_l03Name (t.extract (i + 1) j) (by simp; omega)) rfl rfl ?_
   refine Zn hK9 ?_
   refine Zc (fun hc3 => ?_) fun hc3 => ?_
   ·refine Zs fun _ hK10 => ?_
    refine Zm ?_
    refine Ze (Ev_add rfl rfl _ (wrap_id (by omega) (by omega))) ?_
    refine Za ?_
    refine Zn hK10 ?_
    refine AC_ret ?_
    refine Zr hdm ?_
    rw [hI, hdr]; simp_all [quoL]
   ·refine Zk hK8 ?_
    refine Zs fun _ hK11 => ?_
    refine Za ?_
    refine Zn hK11 ?_
    refine AC_ret ?_
    refine Zr hdm ?_
    rw [hI, hdr]; simp_all [quoL]
  ·refine Zk hK6 ?_
   refine AC_region ?_
   refine Zm ?_
   refine Ze (Ev_add rfl rfl _ (wrap_id (by omega) (by omega))) ?_
   refine Za ?_
   refine AL_nil ?_
   refine closeS (j + 1) [] rfl rfl (by show t.size - (j + 1) < t.size - j; omega) ?_ BxTo_nil Sl_
   exact ⟨by omega, by omega, by rw [hI, hdr]; simp_all [quoL]⟩
 ·have hge : t.size ≤ j := by have := of_decide_eq_false hc1; omega
  have hI2 : quoM t i = 0 := by rw [hI, List.drop_eq_nil_of_le (by simp; omega)]; rfl
  refine Zx hK2 ?_
  refine Zs fun _ hK12 => ?_
  refine Za ?_
  refine Zn hK12 ?_
  refine AC_ret ?_
  refine Zr hdm ?_
  rw [hI2]; rfl
end Go.Proofs.YtjgliechbnommaaGreatDoor
set_option linter.unusedVariables false
set_option linter.unusedSimpArgs false
namespace Go.Proofs.YtjgliechbnommaaGreatDoor
open Go.Eng
theorem tz139 : tyZero Tryz.prog 139 = some (some (.agg #[.int .i64 0, .string ⟨#[]⟩, .int .i64 0, .int .i64 0, .bool false])) := by kernel_rfl
theorem cl156 : Callable Tryz.prog 156 := Zq Tryz.func156
theorem cl158 : Callable Tryz.prog 158 := Zq Tryz.func158
theorem cl159 : Callable Tryz.prog 159 := Zq Tryz.func159
theorem fa139_0 : tyField Tryz.prog 139 0 = some (0, true) := by kernel_rfl
theorem fa139_1 : tyField Tryz.prog 139 1 = some (1, true) := by kernel_rfl
theorem ta139 : tyAgg Tryz.prog 139 = some true := by kernel_rfl
theorem tpl139 : tyPlaces Tryz.prog 139 = some (layPlaces 0 [.one, .one, .one, .one, .one]) := by kernel_rfl
theorem ts139 : tySize Tryz.prog 139 = some 5 := by kernel_rfl
theorem zo139 : ZeroOf Tryz.prog 139 (Lay.st [.one, .one, .one, .one, .one]) (.d (.agg [.one, .one, .one, .one, .one] [.c (.int .i64 0), .c (.string ⟨#[]⟩), .c (.int .i64 0), .c (.int .i64 0), .c (.bool false)])) := ⟨_, tz139, rfl, fun _ _ _ => VC_cells rfl⟩
set_option maxHeartbeats 8000000 in
set_option maxRecDepth 4000 in
theorem c_sign (t : ByteArray) (i : Nat) (u : UInt8) (hs : t.size ≤ 1099511627776) (hu : (bts t)[i]? = some u) : PCall Tryz.prog 136 [.c (.string t), .c (.int .i64 ((i : Nat) : Int))] (· = [injG (signM t i).1, .c (.int .i64 (((signM t i).2 : Nat) : Int))]) := by
 have hu2 := bts_get hu
 have hlt : i < t.size := by simpa using lt_of_get hu
 have hub := byteI_get hu
 have hu9 := UInt8.toNat_lt u
 have hrw : i + runL wordB ((bts t).drop i) ≤ t.size := by have := runL_le wordB ((bts t).drop i); simp at this; omega
 have hqm := quoM_le hlt
 refine PCall_of (n := 167) Tryz.func136 rfl rfl (Nat.le_of_ble_eq_true rfl) fun C hdm hT0 => ?_
 have hT := hT0
 refine Zs fun _ hK1 => ?_
 refine AL_alloc zo139 _ rfl rfl ?_
 refine Za ?_
 refine Zn hK1 ?_
 refine Zs fun _ hK2 => ?_
 iterate 2 refine Zm ?_
 refine Ze (Ev_ix_str tstr9 rfl rfl (by omega) (by assumption)) ?_
 refine Za ?_
 refine Zn hK2 ?_
 refine Zs fun _ hK3 => ?_
 iterate 3 refine Zm ?_
 refine Ze (Ev_add rfl rfl _ (wrap_id (by omega) (by omega))) ?_
 refine Ze (Ev_slice_str tstr9 rfl rfl rfl (by omega) (by omega) (by omega)) ?_
 refine Zm ?_
 refine Ze (Ev_buildD (fs := [.one, .one, .one, .one, .one]) (zs := [.c (.int .i64 0), .c (.string ⟨#[]⟩), .c (.int .i64 0), .c (.int .i64 0), .c (.bool false)]) tz139 rfl tpl139 (.cons rfl rfl (by rfl) (.cons rfl rfl (by rfl) (.cons rfl rfl (by rfl) .nil))) rfl) ?_
 refine AL_alloc zo139 _ rfl rfl ?_
 refine Ys ts139 ?_
 refine Zn hK3 ?_
 refine Zs fun _ hK4 => ?_
 refine Zm ?_
 refine Ze (Ev_add rfl rfl _ (wrap_id (by omega) (by omega))) ?_
 refine Za ?_
 refine Zn hK4 ?_
 refine AC_seq fun _ hK5 => ?_
 refine AC_block ?_
 refine Zs fun _ hK6 => ?_
 refine Zm ?_
 refine AL_fcall0 hT rfl cl154 (c_small (u.toNat : Int)) rfl rfl ?_
 refine Zm ?_
 refine Zb 29 (fun hg1 => ?_) fun hg1 => ?_
 ·iterate 2 refine Zg ?_
  refine Zp ?_
  refine Za ?_
  refine Zn hK6 ?_
  refine AC_cond_t rfl ?_
  refine Zs fun _ hK7 => ?_
  iterate 2 refine Zm ?_
  refine AL_fcall0 hT rfl cl156 (c_run t i hs (by omega)) rfl rfl ?_
  refine Za ?_
  refine Zn hK7 ?_
  refine Zs fun _ hK8 => ?_
  iterate 2 refine Zm ?_
  refine Ze (Ev_sub rfl rfl _ (wrap_id (by omega) (by omega))) ?_
  refine Ze (Ev_leq rfl rfl) ?_
  refine Zn hK8 ?_
  refine Zc (fun hc2 => ?_) fun hc2 => ?_
  ·have hn9 : runL wordB ((bts t).drop i) ≤ 20 := by have := of_decide_eq_true hc2; omega
   refine Zs fun _ hK9 => ?_
   refine Ya fa139_0 ?_
   refine Ys ts3 ?_
   refine Zn hK9 ?_
   refine AC_seq fun _ hK10 => ?_
   refine Zs fun _ hK11 => ?_
   refine Zm ?_
   refine AL_fcall0 hT rfl cl155 (c_great (u.toNat : Int)) rfl rfl ?_
   refine Zn hK11 ?_
   refine Zc (fun hc3 => ?_) fun hc3 => ?_
   ·refine AC_region ?_
    refine Ya fa139_0 ?_
    refine Ys ts3 ?_
    refine Zn hK10 ?_
    refine Zs fun _ hK12 => ?_
    iterate 3 refine Zm ?_
    refine Ze (Ev_slice_str tstr9 rfl rfl rfl (by omega) (by omega) (by omega)) ?_
    refine Ya fa139_1 ?_
    refine Ys ts9 ?_
    refine Zn hK12 ?_
    refine AC_region ?_
    refine Zm ?_
    refine Za ?_
    refine Zn hK5 ?_
    refine Zs fun _ hK13 => ?_
    refine YL ts139 ta139 ?_
    refine Zm ?_
    refine Ys ts139 ?_
    refine Za ?_
    refine Zn hK13 ?_
    refine AC_ret ?_
    exact ret_ok hdm (.cell rfl rfl rfl rfl rfl rfl ts139 ta139 (by rfl) (by intro h; cases h) (.tmp rfl rfl .nil)) (.cons (by exact .agg (.cons .d (.cons .d (.cons .d (.cons .d (.cons .d .nil)))))) (.cons .d .nil)) (sign_ret (x := ⟨2, t.extract i (i + runL wordB ((bts t).drop i)), 0, i, false⟩) (n := i + runL wordB ((bts t).drop i)) (by rw [signM_w hub (.inl hg1) hn9, if_pos hc3]))
   ·refine Zk hK10 ?_
    refine Zs fun _ hK14 => ?_
    iterate 3 refine Zm ?_
    refine Ze (Ev_slice_str tstr9 rfl rfl rfl (by omega) (by omega) (by omega)) ?_
    refine Ya fa139_1 ?_
    refine Ys ts9 ?_
    refine Zn hK14 ?_
    refine AC_region ?_
    refine Zm ?_
    refine Za ?_
    refine Zn hK5 ?_
    refine Zs fun _ hK15 => ?_
    refine YL ts139 ta139 ?_
    refine Zm ?_
    refine Ys ts139 ?_
    refine Za ?_
    refine Zn hK15 ?_
    refine AC_ret ?_
    exact ret_ok hdm (.cell rfl rfl rfl rfl rfl rfl ts139 ta139 (by rfl) (by intro h; cases h) (.tmp rfl rfl .nil)) (.cons (by exact .agg (.cons .d (.cons .d (.cons .d (.cons .d (.cons .d .nil)))))) (.cons .d .nil)) (sign_ret (x := ⟨1, t.extract i (i + runL wordB ((bts t).drop i)), 0, i, false⟩) (n := i + runL wordB ((bts t).drop i)) (by rw [signM_w hub (.inl hg1) hn9, if_neg (by rw [hc3]; decide)]))
  ·have hn9 : ¬ runL wordB ((bts t).drop i) ≤ 20 := by have := of_decide_eq_false hc2; omega
   refine Zk hK5 ?_
   refine Zs fun _ hK16 => ?_
   refine YL ts139 ta139 ?_
   refine Zm ?_
   refine Ys ts139 ?_
   refine Za ?_
   refine Zn hK16 ?_
   refine AC_ret ?_
   exact ret_ok hdm (.cell rfl rfl rfl rfl rfl rfl ts139 ta139 (by rfl) (by intro h; cases h) (.tmp rfl rfl .nil)) (.cons (by exact .d) (.cons .d .nil)) (sign_ret (signM_w0 hub (.inl hg1) hn9))
 ·refine Zt ?_
  refine Zm ?_
  refine Zt ?_
  refine AL_fcall0 hT rfl cl155 (c_great (u.toNat : Int)) rfl rfl ?_
  refine Zp ?_
  refine Za ?_
  refine Zn hK6 ?_
  refine Zc (fun hc4 => ?_) fun hc4 => ?_
  ·refine Zs fun _ hK17 => ?_
   iterate 2 refine Zm ?_
   refine AL_fcall0 hT rfl cl156 (c_run t i hs (by omega)) rfl rfl ?_
   refine Za ?_
   refine Zn hK17 ?_
   refine Zs fun _ hK18 => ?_
   iterate 2 refine Zm ?_
   refine Ze (Ev_sub rfl rfl _ (wrap_id (by omega) (by omega))) ?_
   refine Ze (Ev_leq rfl rfl) ?_
   refine Zn hK18 ?_
   refine Zc (fun hc5 => ?_) fun hc5 => ?_
   ·have hn9 : runL wordB ((bts t).drop i) ≤ 20 := by have := of_decide_eq_true hc5; omega
    refine Zs fun _ hK19 => ?_
    refine Ya fa139_0 ?_
    refine Ys ts3 ?_
    refine Zn hK19 ?_
    refine AC_seq fun _ hK20 => ?_
    refine Zs fun _ hK21 => ?_
    refine Zm ?_
    refine AL_fcall0 hT rfl cl155 (c_great (u.toNat : Int)) rfl rfl ?_
    refine Zn hK21 ?_
    refine Zc (fun hc6 => ?_) fun hc6 => ?_
    ·refine AC_region ?_
     refine Ya fa139_0 ?_
     refine Ys ts3 ?_
     refine Zn hK20 ?_
     refine Zs fun _ hK22 => ?_
     iterate 3 refine Zm ?_
     refine Ze (Ev_slice_str tstr9 rfl rfl rfl (by omega) (by omega) (by omega)) ?_
     refine Ya fa139_1 ?_
     refine Ys ts9 ?_
     refine Zn hK22 ?_
     refine AC_region ?_
     refine Zm ?_
     refine Za ?_
     refine Zn hK5 ?_
     refine Zs fun _ hK23 => ?_
     refine YL ts139 ta139 ?_
     refine Zm ?_
     refine Ys ts139 ?_
     refine Za ?_
     refine Zn hK23 ?_
     refine AC_ret ?_
     exact ret_ok hdm (.cell rfl rfl rfl rfl rfl rfl ts139 ta139 (by rfl) (by intro h; cases h) (.tmp rfl rfl .nil)) (.cons (by exact .agg (.cons .d (.cons .d (.cons .d (.cons .d (.cons .d .nil)))))) (.cons .d .nil)) (sign_ret (x := ⟨2, t.extract i (i + runL wordB ((bts t).drop i)), 0, i, false⟩) (n := i + runL wordB ((bts t).drop i)) (by rw [signM_w hub (.inr hc4) hn9, if_pos hc4]))
    ·refine Zk hK20 ?_
     refine Zs fun _ hK24 => ?_
     iterate 3 refine Zm ?_
     refine Ze (Ev_slice_str tstr9 rfl rfl rfl (by omega) (by omega) (by omega)) ?_
     refine Ya fa139_1 ?_
     refine Ys ts9 ?_
     refine Zn hK24 ?_
     refine AC_region ?_
     refine Zm ?_
     refine Za ?_
     refine Zn hK5 ?_
     refine Zs fun _ hK25 => ?_
     refine YL ts139 ta139 ?_
     refine Zm ?_
     refine Ys ts139 ?_
     refine Za ?_
     refine Zn hK25 ?_
     refine AC_ret ?_
     rw [hc4] at hc6; cases hc6
   ·have hn9 : ¬ runL wordB ((bts t).drop i) ≤ 20 := by have := of_decide_eq_false hc5; omega
    refine Zk hK5 ?_
    refine Zs fun _ hK26 => ?_
    refine YL ts139 ta139 ?_
    refine Zm ?_
    refine Ys ts139 ?_
    refine Za ?_
    refine Zn hK26 ?_
    refine AC_ret ?_
    exact ret_ok hdm (.cell rfl rfl rfl rfl rfl rfl ts139 ta139 (by rfl) (by intro h; cases h) (.tmp rfl rfl .nil)) (.cons (by exact .d) (.cons .d .nil)) (sign_ret (signM_w0 hub (.inr hc4) hn9))
  ·refine Zs fun _ hK27 => ?_
   refine Zm ?_
   refine AL_fcall0 hT rfl cl157 (c_fig (u.toNat : Int)) rfl rfl ?_
   refine Za ?_
   refine Zn hK27 ?_
   refine Zc (fun hc7 => ?_) fun hc7 => ?_
   ·refine Zs fun _ hK28 => ?_
    refine Zm ?_
    refine Za ?_
    refine Zn hK28 ?_
    refine Zs fun _ hK29 => ?_
    refine Za ?_
    refine Zn hK29 ?_
    refine AC_seq fun _ hK30 => ?_
    refine AC_block ?_
    refine AC_loopS [0, 1, 4, 7, 8] (Nat × Int) (fun q => [(10, i64 ((q.1 : Nat) : Int)), (11, i64 q.2)]) (fun q => [some ⟨139, LSG, [.d (injG sg0)]⟩, some ⟨139, LSG, [.d (injG ⟨6, t.extract i (i + 1), 0, i, false⟩)]⟩]) (fun q => t.size - q.1) (fun q => i ≤ q.1 ∧ q.1 ≤ t.size ∧ 0 ≤ q.2 ∧ q.2 ≤ 99999999999 ∧ figL ((bts t).drop i) 0 i = figL ((bts t).drop q.1) q.2 q.1) ((i, 0)) ?_ ?_ ?_
    ·exact enterS [some 0, some 1] rfl rfl (Bx (.cons (.rd .d) .nil) (Bx (.cons (.rd .d) .nil) BxTo_nil)) Sl_
    ·exact ⟨Nat.le_refl _, by show i ≤ t.size; omega, Int.le_refl _, by show (0 : Int) ≤ 99999999999; omega, rfl⟩
    rintro ⟨j, m⟩ ⟨hj0, hj1, hm0, hm1, hI⟩
    simp only at hj0 hj1 hm0 hm1 hI
    refine AC_seq fun _ hK31 => ?_
    refine Zs fun _ hK32 => ?_
    iterate 2 refine Zm ?_
    refine Ze (Ev_len_str tstr9 rfl) ?_
    refine Ze (Ev_lss rfl rfl) ?_
    refine Zm ?_
    refine Zb 58 (fun hg8 => ?_) fun hg8 => ?_
    ·have hjl : j < t.size := by have := of_decide_eq_true hg8; omega
     have hjbv : j < (bts t).length := by rw [bts_len]; omega
     refine Exists.elim (show ∃ v, (bts t)[j]? = some v from ⟨_, List.getElem?_eq_getElem hjbv⟩) fun v hv => ?_
     have hv2 := bts_get hv
     have hvb := UInt8.toNat_lt v
     have hdr := drop_get hv
     refine Zt ?_
     refine Zm ?_
     refine Zt ?_
     refine Zm ?_
     refine Zt ?_
     refine Ze (Ev_ix_str tstr9 rfl rfl (by omega) (by assumption)) ?_
     refine Zt ?_
     refine AL_fcall0 hT rfl cl157 (c_fig (v.toNat : Int)) rfl rfl ?_
     refine Zp ?_
     refine Zm ?_
     refine Zb 64 (fun hg9 => ?_) fun hg9 => ?_
     ·have hf9 : 48 ≤ (v.toNat : Int) ∧ (v.toNat : Int) ≤ 57 := by have h := hg9; simp only [figB, Bool.and_eq_true, decide_eq_true_eq] at h; exact h
      refine Zt ?_
      refine Zm ?_
      refine Zt ?_
      refine Ze (Ev_leq rfl rfl) ?_
      refine Zp ?_
      refine Zn hK32 ?_
      refine Zc (fun hc10 => ?_) fun hc10 => ?_
      ·have hm9 : m ≤ 999999999 := of_decide_eq_true hc10
       refine Zk hK31 ?_
       refine AC_block ?_
       refine Zs fun _ hK33 => ?_
       refine Zm ?_
       refine Ze (Ev_mul rfl rfl _ (wrap_id (by omega) (by omega))) ?_
       iterate 2 refine Zm ?_
       refine Ze (Ev_ix_str tstr9 rfl rfl (by omega) (by assumption)) ?_
       refine Ze (Ev_conv_int tund5 tint3 rfl _ (wrap_id (by omega) (by omega))) ?_
       refine Ze (Ev_add rfl rfl _ (wrap_id (by omega) (by omega))) ?_
       refine Ze (Ev_sub rfl rfl _ (wrap_id (by omega) (by omega))) ?_
       refine Za ?_
       refine Zn hK33 ?_
       refine AC_region ?_
       refine Zm ?_
       refine Ze (Ev_add rfl rfl _ (wrap_id (by omega) (by omega))) ?_
       refine Za ?_
       refine AL_nil ?_
       refine closeS (j + 1, 10 * m + (v.toNat : Int) - 48) [some 0, some 1] rfl rfl (by show t.size - (j + 1) < t.size - j; omega) ⟨by show i ≤ j + 1; omega, by show j + 1 ≤ t.size; omega, by show 0 ≤ 10 * m + (v.toNat : Int) - 48; omega, by show 10 * m + (v.toNat : Int) - 48 ≤ 99999999999; omega, by show _ = figL _ (10 * m + (v.toNat : Int) - 48) (j + 1); rw [hI, hdr]; simp_all [figL]⟩ (Bx (.cons (.rd .d) .nil) (Bx (.cons (.rd .d) .nil) BxTo_nil)) (SlTo_cons (Vw_int (by rfl)) (SlTo_cons (Vw_int (by rfl)) Sl_))
      ·have hm9 : ¬ m ≤ 999999999 := of_decide_eq_false hc10
       have hI2 : figL ((bts t).drop i) 0 i = (m, j) := by rw [hI, hdr, figL, if_neg (fun h => hm9 h.2)]
       refine Zx hK30 ?_
       refine Zs fun _ hK34 => ?_
       refine Zm ?_
       refine Ze (Ev_leq rfl rfl) ?_
       refine Zn hK34 ?_
       refine Zc (fun hc11 => ?_) fun hc11 => ?_
       ·refine Zs fun _ hK35 => ?_
        iterate 2 refine Zm ?_
        refine Ze (Ev_buildD (fs := [.one, .one, .one, .one, .one]) (zs := [.c (.int .i64 0), .c (.string ⟨#[]⟩), .c (.int .i64 0), .c (.int .i64 0), .c (.bool false)]) tz139 rfl tpl139 (.cons rfl rfl (by rfl) (.cons rfl rfl (by rfl) (.cons rfl rfl (by rfl) .nil))) rfl) ?_
        refine Zm ?_
        refine Ys ts139 ?_
        refine Za ?_
        refine Zn hK35 ?_
        refine AC_ret ?_
        have H1 : ¬ (smallB (u.toNat : Int) = true ∨ greatB (u.toNat : Int) = true) := by rintro (h | h); rw [hg1] at h; cases h; rw [hc4] at h; cases h
        exact ret_ok hdm (.cell rfl rfl rfl rfl rfl rfl ts139 ta139 (by rfl) (by intro h; cases h) (.tmp rfl rfl .nil)) (.cons (by exact .d) (.cons .d .nil)) (sign_ret (signM_f hub H1 hc7 hI2 (of_decide_eq_true hc11)))
       ·refine Zk hK5 ?_
        refine Zs fun _ hK36 => ?_
        refine YL ts139 ta139 ?_
        refine Zm ?_
        refine Ys ts139 ?_
        refine Za ?_
        refine Zn hK36 ?_
        refine AC_ret ?_
        have H1 : ¬ (smallB (u.toNat : Int) = true ∨ greatB (u.toNat : Int) = true) := by rintro (h | h); rw [hg1] at h; cases h; rw [hc4] at h; cases h
        exact ret_ok hdm (.cell rfl rfl rfl rfl rfl rfl ts139 ta139 (by rfl) (by intro h; cases h) (.tmp rfl rfl .nil)) (.cons (by exact .d) (.cons .d .nil)) (sign_ret (signM_f0 hub H1 hc7 hI2 (of_decide_eq_false hc11)))
     ·have hI2 : figL ((bts t).drop i) 0 i = (m, j) := by rw [hI, hdr]; simp_all [figL]
      iterate 2 refine Zg ?_
      refine Zp ?_
      refine Zn hK32 ?_
      refine AC_cond_f rfl ?_
      refine Zx hK30 ?_
      refine Zs fun _ hK37 => ?_
      refine Zm ?_
      refine Ze (Ev_leq rfl rfl) ?_
      refine Zn hK37 ?_
      refine Zc (fun hc12 => ?_) fun hc12 => ?_
      ·refine Zs fun _ hK38 => ?_
       iterate 2 refine Zm ?_
       refine Ze (Ev_buildD (fs := [.one, .one, .one, .one, .one]) (zs := [.c (.int .i64 0), .c (.string ⟨#[]⟩), .c (.int .i64 0), .c (.int .i64 0), .c (.bool false)]) tz139 rfl tpl139 (.cons rfl rfl (by rfl) (.cons rfl rfl (by rfl) (.cons rfl rfl (by rfl) .nil))) rfl) ?_
       refine Zm ?_
       refine Ys ts139 ?_
       refine Za ?_
       refine Zn hK38 ?_
       refine AC_ret ?_
       have H1 : ¬ (smallB (u.toNat : Int) = true ∨ greatB (u.toNat : Int) = true) := by rintro (h | h); rw [hg1] at h; cases h; rw [hc4] at h; cases h
       exact ret_ok hdm (.cell rfl rfl rfl rfl rfl rfl ts139 ta139 (by rfl) (by intro h; cases h) (.tmp rfl rfl .nil)) (.cons (by exact .d) (.cons .d .nil)) (sign_ret (signM_f hub H1 hc7 hI2 (of_decide_eq_true hc12)))
      ·refine Zk hK5 ?_
       refine Zs fun _ hK39 => ?_
       refine YL ts139 ta139 ?_
       refine Zm ?_
       refine Ys ts139 ?_
       refine Za ?_
       refine Zn hK39 ?_
       refine AC_ret ?_
       have H1 : ¬ (smallB (u.toNat : Int) = true ∨ greatB (u.toNat : Int) = true) := by rintro (h | h); rw [hg1] at h; cases h; rw [hc4] at h; cases h
       exact ret_ok hdm (.cell rfl rfl rfl rfl rfl rfl ts139 ta139 (by rfl) (by intro h; cases h) (.tmp rfl rfl .nil)) (.cons (by exact .d) (.cons .d .nil)) (sign_ret (signM_f0 hub H1 hc7 hI2 (of_decide_eq_false hc12)))
    ·have hge : t.size ≤ j := by have := of_decide_eq_false hg8; omega
     have hI2 : figL ((bts t).drop i) 0 i = (m, j) := by rw [hI, List.drop_eq_nil_of_le (by simp; omega)]; rfl
     iterate 4 refine Zg ?_
     refine Zp ?_
     refine Zm ?_
     iterate 2 refine Zg ?_
     refine Zp ?_
     refine Zn hK32 ?_
     refine AC_cond_f rfl ?_
     refine Zx hK30 ?_
     refine Zs fun _ hK40 => ?_
     refine Zm ?_
     refine Ze (Ev_leq rfl rfl) ?_
     refine Zn hK40 ?_
     refine Zc (fun hc13 => ?_) fun hc13 => ?_
     ·refine Zs fun _ hK41 => ?_
      iterate 2 refine Zm ?_
      refine Ze (Ev_buildD (fs := [.one, .one, .one, .one, .one]) (zs := [.c (.int .i64 0), .c (.string ⟨#[]⟩), .c (.int .i64 0), .c (.int .i64 0), .c (.bool false)]) tz139 rfl tpl139 (.cons rfl rfl (by rfl) (.cons rfl rfl (by rfl) (.cons rfl rfl (by rfl) .nil))) rfl) ?_
      refine Zm ?_
      refine Ys ts139 ?_
      refine Za ?_
      refine Zn hK41 ?_
      refine AC_ret ?_
      have H1 : ¬ (smallB (u.toNat : Int) = true ∨ greatB (u.toNat : Int) = true) := by rintro (h | h); rw [hg1] at h; cases h; rw [hc4] at h; cases h
      exact ret_ok hdm (.cell rfl rfl rfl rfl rfl rfl ts139 ta139 (by rfl) (by intro h; cases h) (.tmp rfl rfl .nil)) (.cons (by exact .d) (.cons .d .nil)) (sign_ret (signM_f hub H1 hc7 hI2 (of_decide_eq_true hc13)))
     ·refine Zk hK5 ?_
      refine Zs fun _ hK42 => ?_
      refine YL ts139 ta139 ?_
      refine Zm ?_
      refine Ys ts139 ?_
      refine Za ?_
      refine Zn hK42 ?_
      refine AC_ret ?_
      have H1 : ¬ (smallB (u.toNat : Int) = true ∨ greatB (u.toNat : Int) = true) := by rintro (h | h); rw [hg1] at h; cases h; rw [hc4] at h; cases h
      exact ret_ok hdm (.cell rfl rfl rfl rfl rfl rfl ts139 ta139 (by rfl) (by intro h; cases h) (.tmp rfl rfl .nil)) (.cons (by exact .d) (.cons .d .nil)) (sign_ret (signM_f0 hub H1 hc7 hI2 (of_decide_eq_false hc13)))
   ·refine Zs fun _ hK43 => ?_
    refine Zm ?_
    refine Ze (Ev_eql rfl rfl) ?_
    refine Za ?_
    refine Zn hK43 ?_
    refine Zc (fun hc14 => ?_) fun hc14 => ?_
    ·refine Zs fun _ hK44 => ?_
     iterate 2 refine Zm ?_
     refine AL_fcall0 hT rfl cl158 (c_quoted t i hs hlt) rfl rfl ?_
     refine Za ?_
     refine Zn hK44 ?_
     refine Zs fun _ hK45 => ?_
     refine Zm ?_
     refine Ze (Ev_gtr rfl rfl) ?_
     refine Zn hK45 ?_
     refine Zc (fun hc15 => ?_) fun hc15 => ?_
     ·have hq0 : 0 < quoM t i := by have := of_decide_eq_true hc15; omega
      have hqe : (((quoM t i : Nat) : Int) - 1).toNat = quoM t i - 1 := by omega
      refine Zs fun _ hK46 => ?_
      iterate 2 refine Zm ?_
      refine Ze (Ev_add rfl rfl _ (wrap_id (by omega) (by omega))) ?_
      refine Zm ?_
      refine Ze (Ev_sub rfl rfl _ (wrap_id (by omega) (by omega))) ?_
      refine Ze (Ev_slice_str tstr9 rfl rfl rfl (by omega) (by omega) (by omega)) ?_
      refine Zm ?_
      refine Ze (Ev_buildD (fs := [.one, .one, .one, .one, .one]) (zs := [.c (.int .i64 0), .c (.string ⟨#[]⟩), .c (.int .i64 0), .c (.int .i64 0), .c (.bool false)]) tz139 rfl tpl139 (.cons rfl rfl (by rfl) (.cons rfl rfl (by rfl) (.cons rfl rfl (by rfl) .nil))) rfl) ?_
      refine Ys ts139 ?_
      refine Zn hK46 ?_
      refine AC_region ?_
      refine Zm ?_
      refine Za ?_
      refine Zn hK5 ?_
      refine Zs fun _ hK47 => ?_
      refine YL ts139 ta139 ?_
      refine Zm ?_
      refine Ys ts139 ?_
      refine Za ?_
      refine Zn hK47 ?_
      refine AC_ret ?_
      have H1 : ¬ (smallB (u.toNat : Int) = true ∨ greatB (u.toNat : Int) = true) := by rintro (h | h); rw [hg1] at h; cases h; rw [hc4] at h; cases h
      have H2 : ¬ figB (u.toNat : Int) = true := by rw [hc7]; decide
      exact ret_ok hdm (.cell rfl rfl rfl rfl rfl rfl ts139 ta139 (by rfl) (by intro h; cases h) (.tmp rfl rfl .nil)) (.cons (by exact .d) (.cons .d .nil)) (by have e := sign_ret (signM_q hub H1 H2 (of_decide_eq_true hc14) hq0); rw [← hqe] at e; exact e)
     ·refine Zk hK5 ?_
      refine Zs fun _ hK48 => ?_
      refine YL ts139 ta139 ?_
      refine Zm ?_
      refine Ys ts139 ?_
      refine Za ?_
      refine Zn hK48 ?_
      refine AC_ret ?_
      have H1 : ¬ (smallB (u.toNat : Int) = true ∨ greatB (u.toNat : Int) = true) := by rintro (h | h); rw [hg1] at h; cases h; rw [hc4] at h; cases h
      have H2 : ¬ figB (u.toNat : Int) = true := by rw [hc7]; decide
      exact ret_ok hdm (.cell rfl rfl rfl rfl rfl rfl ts139 ta139 (by rfl) (by intro h; cases h) (.tmp rfl rfl .nil)) (.cons (by exact .d) (.cons .d .nil)) (sign_ret (signM_q0 hub H1 H2 (of_decide_eq_true hc14) (by have := of_decide_eq_false hc15; omega)))
    ·refine Zs fun _ hK49 => ?_
     refine Zm ?_
     refine Ze (Ev_eql rfl rfl) ?_
     refine Zm ?_
     refine Zb 104 (fun hg16 => ?_) fun hg16 => ?_
     ·iterate 2 refine Zg ?_
      refine Zp ?_
      refine Za ?_
      refine Zn hK49 ?_
      refine AC_cond_t rfl ?_
      refine AC_region ?_
      refine Ya fa139_0 ?_
      refine Ys ts3 ?_
      refine Zn hK5 ?_
      refine Zs fun _ hK50 => ?_
      refine YL ts139 ta139 ?_
      refine Zm ?_
      refine Ys ts139 ?_
      refine Za ?_
      refine Zn hK50 ?_
      refine AC_ret ?_
      have H1 : ¬ (smallB (u.toNat : Int) = true ∨ greatB (u.toNat : Int) = true) := by rintro (h | h); rw [hg1] at h; cases h; rw [hc4] at h; cases h
      have H2 : ¬ figB (u.toNat : Int) = true := by rw [hc7]; decide
      have H3 : ¬ (u.toNat : Int) = 39 := of_decide_eq_false hc14
      exact ret_ok hdm (.cell rfl rfl rfl rfl rfl rfl ts139 ta139 (by rfl) (by intro h; cases h) (.tmp rfl rfl .nil)) (.cons (by exact .agg (.cons .d (.cons .d (.cons .d (.cons .d (.cons .d .nil)))))) (.cons .d .nil)) (sign_ret (signM_a hub H1 H2 H3 (.inl (of_decide_eq_true hg16))))
     ·refine Zt ?_
      refine Zm ?_
      refine Zt ?_
      refine Ze (Ev_eql rfl rfl) ?_
      refine Zp ?_
      refine Za ?_
      refine Zn hK49 ?_
      refine Zc (fun hc17 => ?_) fun hc17 => ?_
      ·refine AC_region ?_
       refine Ya fa139_0 ?_
       refine Ys ts3 ?_
       refine Zn hK5 ?_
       refine Zs fun _ hK51 => ?_
       refine YL ts139 ta139 ?_
       refine Zm ?_
       refine Ys ts139 ?_
       refine Za ?_
       refine Zn hK51 ?_
       refine AC_ret ?_
       have H1 : ¬ (smallB (u.toNat : Int) = true ∨ greatB (u.toNat : Int) = true) := by rintro (h | h); rw [hg1] at h; cases h; rw [hc4] at h; cases h
       have H2 : ¬ figB (u.toNat : Int) = true := by rw [hc7]; decide
       have H3 : ¬ (u.toNat : Int) = 39 := of_decide_eq_false hc14
       exact ret_ok hdm (.cell rfl rfl rfl rfl rfl rfl ts139 ta139 (by rfl) (by intro h; cases h) (.tmp rfl rfl .nil)) (.cons (by exact .agg (.cons .d (.cons .d (.cons .d (.cons .d (.cons .d .nil)))))) (.cons .d .nil)) (sign_ret (signM_a hub H1 H2 H3 (.inr (of_decide_eq_true hc17))))
      ·refine Zs fun _ hK52 => ?_
       refine Zm ?_
       refine Ze (Ev_eql rfl rfl) ?_
       refine Zm ?_
       refine Zb 112 (fun hg18 => ?_) fun hg18 => ?_
       ·iterate 2 refine Zg ?_
        refine Zp ?_
        refine Zm ?_
        iterate 2 refine Zg ?_
        refine Zp ?_
        refine Zm ?_
        iterate 2 refine Zg ?_
        refine Zp ?_
        refine Zm ?_
        iterate 2 refine Zg ?_
        refine Zp ?_
        refine Zm ?_
        iterate 2 refine Zg ?_
        refine Zp ?_
        refine Za ?_
        refine Zn hK52 ?_
        refine AC_cond_t rfl ?_
        refine AC_region ?_
        refine Ya fa139_0 ?_
        refine Ys ts3 ?_
        refine Zn hK5 ?_
        refine Zs fun _ hK53 => ?_
        refine YL ts139 ta139 ?_
        refine Zm ?_
        refine Ys ts139 ?_
        refine Za ?_
        refine Zn hK53 ?_
        refine AC_ret ?_
        have H1 : ¬ (smallB (u.toNat : Int) = true ∨ greatB (u.toNat : Int) = true) := by rintro (h | h); rw [hg1] at h; cases h; rw [hc4] at h; cases h
        have H2 : ¬ figB (u.toNat : Int) = true := by rw [hc7]; decide
        have H3 : ¬ (u.toNat : Int) = 39 := of_decide_eq_false hc14
        have H4 : ¬ ((u.toNat : Int) = 33 ∨ (u.toNat : Int) = 59) := by rintro (h | h); exact of_decide_eq_false hg16 h; exact of_decide_eq_false hc17 h
        exact ret_ok hdm (.cell rfl rfl rfl rfl rfl rfl ts139 ta139 (by rfl) (by intro h; cases h) (.tmp rfl rfl .nil)) (.cons (by exact .agg (.cons .d (.cons .d (.cons .d (.cons .d (.cons .d .nil)))))) (.cons .d .nil)) (sign_ret (signM_m hub H1 H2 H3 H4 (by have := of_decide_eq_true hg18; omega)))
       ·refine Zt ?_
        refine Zm ?_
        refine Zt ?_
        refine Ze (Ev_eql rfl rfl) ?_
        refine Zp ?_
        refine Zm ?_
        refine Zb 116 (fun hg19 => ?_) fun hg19 => ?_
        ·iterate 2 refine Zg ?_
         refine Zp ?_
         refine Zm ?_
         iterate 2 refine Zg ?_
         refine Zp ?_
         refine Zm ?_
         iterate 2 refine Zg ?_
         refine Zp ?_
         refine Zm ?_
         iterate 2 refine Zg ?_
         refine Zp ?_
         refine Za ?_
         refine Zn hK52 ?_
         refine AC_cond_t rfl ?_
         refine AC_region ?_
         refine Ya fa139_0 ?_
         refine Ys ts3 ?_
         refine Zn hK5 ?_
         refine Zs fun _ hK54 => ?_
         refine YL ts139 ta139 ?_
         refine Zm ?_
         refine Ys ts139 ?_
         refine Za ?_
         refine Zn hK54 ?_
         refine AC_ret ?_
         have H1 : ¬ (smallB (u.toNat : Int) = true ∨ greatB (u.toNat : Int) = true) := by rintro (h | h); rw [hg1] at h; cases h; rw [hc4] at h; cases h
         have H2 : ¬ figB (u.toNat : Int) = true := by rw [hc7]; decide
         have H3 : ¬ (u.toNat : Int) = 39 := of_decide_eq_false hc14
         have H4 : ¬ ((u.toNat : Int) = 33 ∨ (u.toNat : Int) = 59) := by rintro (h | h); exact of_decide_eq_false hg16 h; exact of_decide_eq_false hc17 h
         exact ret_ok hdm (.cell rfl rfl rfl rfl rfl rfl ts139 ta139 (by rfl) (by intro h; cases h) (.tmp rfl rfl .nil)) (.cons (by exact .agg (.cons .d (.cons .d (.cons .d (.cons .d (.cons .d .nil)))))) (.cons .d .nil)) (sign_ret (signM_m hub H1 H2 H3 H4 (by have := of_decide_eq_true hg19; omega)))
        ·refine Zt ?_
         refine Zm ?_
         refine Zt ?_
         refine Ze (Ev_eql rfl rfl) ?_
         refine Zp ?_
         refine Zm ?_
         refine Zb 120 (fun hg20 => ?_) fun hg20 => ?_
         ·iterate 2 refine Zg ?_
          refine Zp ?_
          refine Zm ?_
          iterate 2 refine Zg ?_
          refine Zp ?_
          refine Zm ?_
          iterate 2 refine Zg ?_
          refine Zp ?_
          refine Za ?_
          refine Zn hK52 ?_
          refine AC_cond_t rfl ?_
          refine AC_region ?_
          refine Ya fa139_0 ?_
          refine Ys ts3 ?_
          refine Zn hK5 ?_
          refine Zs fun _ hK55 => ?_
          refine YL ts139 ta139 ?_
          refine Zm ?_
          refine Ys ts139 ?_
          refine Za ?_
          refine Zn hK55 ?_
          refine AC_ret ?_
          have H1 : ¬ (smallB (u.toNat : Int) = true ∨ greatB (u.toNat : Int) = true) := by rintro (h | h); rw [hg1] at h; cases h; rw [hc4] at h; cases h
          have H2 : ¬ figB (u.toNat : Int) = true := by rw [hc7]; decide
          have H3 : ¬ (u.toNat : Int) = 39 := of_decide_eq_false hc14
          have H4 : ¬ ((u.toNat : Int) = 33 ∨ (u.toNat : Int) = 59) := by rintro (h | h); exact of_decide_eq_false hg16 h; exact of_decide_eq_false hc17 h
          exact ret_ok hdm (.cell rfl rfl rfl rfl rfl rfl ts139 ta139 (by rfl) (by intro h; cases h) (.tmp rfl rfl .nil)) (.cons (by exact .agg (.cons .d (.cons .d (.cons .d (.cons .d (.cons .d .nil)))))) (.cons .d .nil)) (sign_ret (signM_m hub H1 H2 H3 H4 (by have := of_decide_eq_true hg20; omega)))
         ·refine Zt ?_
          refine Zm ?_
          refine Zt ?_
          refine Ze (Ev_eql rfl rfl) ?_
          refine Zp ?_
          refine Zm ?_
          refine Zb 124 (fun hg21 => ?_) fun hg21 => ?_
          ·iterate 2 refine Zg ?_
           refine Zp ?_
           refine Zm ?_
           iterate 2 refine Zg ?_
           refine Zp ?_
           refine Za ?_
           refine Zn hK52 ?_
           refine AC_cond_t rfl ?_
           refine AC_region ?_
           refine Ya fa139_0 ?_
           refine Ys ts3 ?_
           refine Zn hK5 ?_
           refine Zs fun _ hK56 => ?_
           refine YL ts139 ta139 ?_
           refine Zm ?_
           refine Ys ts139 ?_
           refine Za ?_
           refine Zn hK56 ?_
           refine AC_ret ?_
           have H1 : ¬ (smallB (u.toNat : Int) = true ∨ greatB (u.toNat : Int) = true) := by rintro (h | h); rw [hg1] at h; cases h; rw [hc4] at h; cases h
           have H2 : ¬ figB (u.toNat : Int) = true := by rw [hc7]; decide
           have H3 : ¬ (u.toNat : Int) = 39 := of_decide_eq_false hc14
           have H4 : ¬ ((u.toNat : Int) = 33 ∨ (u.toNat : Int) = 59) := by rintro (h | h); exact of_decide_eq_false hg16 h; exact of_decide_eq_false hc17 h
           exact ret_ok hdm (.cell rfl rfl rfl rfl rfl rfl ts139 ta139 (by rfl) (by intro h; cases h) (.tmp rfl rfl .nil)) (.cons (by exact .agg (.cons .d (.cons .d (.cons .d (.cons .d (.cons .d .nil)))))) (.cons .d .nil)) (sign_ret (signM_m hub H1 H2 H3 H4 (by have := of_decide_eq_true hg21; omega)))
          ·refine Zt ?_
           refine Zm ?_
           refine Zt ?_
           refine Ze (Ev_eql rfl rfl) ?_
           refine Zp ?_
           refine Zm ?_
           refine Zb 128 (fun hg22 => ?_) fun hg22 => ?_
           ·iterate 2 refine Zg ?_
            refine Zp ?_
            refine Za ?_
            refine Zn hK52 ?_
            refine AC_cond_t rfl ?_
            refine AC_region ?_
            refine Ya fa139_0 ?_
            refine Ys ts3 ?_
            refine Zn hK5 ?_
            refine Zs fun _ hK57 => ?_
            refine YL ts139 ta139 ?_
            refine Zm ?_
            refine Ys ts139 ?_
            refine Za ?_
            refine Zn hK57 ?_
            refine AC_ret ?_
            have H1 : ¬ (smallB (u.toNat : Int) = true ∨ greatB (u.toNat : Int) = true) := by rintro (h | h); rw [hg1] at h; cases h; rw [hc4] at h; cases h
            have H2 : ¬ figB (u.toNat : Int) = true := by rw [hc7]; decide
            have H3 : ¬ (u.toNat : Int) = 39 := of_decide_eq_false hc14
            have H4 : ¬ ((u.toNat : Int) = 33 ∨ (u.toNat : Int) = 59) := by rintro (h | h); exact of_decide_eq_false hg16 h; exact of_decide_eq_false hc17 h
            exact ret_ok hdm (.cell rfl rfl rfl rfl rfl rfl ts139 ta139 (by rfl) (by intro h; cases h) (.tmp rfl rfl .nil)) (.cons (by exact .agg (.cons .d (.cons .d (.cons .d (.cons .d (.cons .d .nil)))))) (.cons .d .nil)) (sign_ret (signM_m hub H1 H2 H3 H4 (by have := of_decide_eq_true hg22; omega)))
           ·refine Zt ?_
            refine Zm ?_
            refine Zt ?_
            refine Ze (Ev_eql rfl rfl) ?_
            refine Zp ?_
            refine Za ?_
            refine Zn hK52 ?_
            refine Zc (fun hc23 => ?_) fun hc23 => ?_
            ·refine AC_region ?_
             refine Ya fa139_0 ?_
             refine Ys ts3 ?_
             refine Zn hK5 ?_
             refine Zs fun _ hK58 => ?_
             refine YL ts139 ta139 ?_
             refine Zm ?_
             refine Ys ts139 ?_
             refine Za ?_
             refine Zn hK58 ?_
             refine AC_ret ?_
             have H1 : ¬ (smallB (u.toNat : Int) = true ∨ greatB (u.toNat : Int) = true) := by rintro (h | h); rw [hg1] at h; cases h; rw [hc4] at h; cases h
             have H2 : ¬ figB (u.toNat : Int) = true := by rw [hc7]; decide
             have H3 : ¬ (u.toNat : Int) = 39 := of_decide_eq_false hc14
             have H4 : ¬ ((u.toNat : Int) = 33 ∨ (u.toNat : Int) = 59) := by rintro (h | h); exact of_decide_eq_false hg16 h; exact of_decide_eq_false hc17 h
             exact ret_ok hdm (.cell rfl rfl rfl rfl rfl rfl ts139 ta139 (by rfl) (by intro h; cases h) (.tmp rfl rfl .nil)) (.cons (by exact .agg (.cons .d (.cons .d (.cons .d (.cons .d (.cons .d .nil)))))) (.cons .d .nil)) (sign_ret (signM_m hub H1 H2 H3 H4 (by have := of_decide_eq_true hc23; omega)))
            ·refine Zs fun _ hK59 => ?_
             iterate 2 refine Zm ?_
             refine AL_fcall0 hT rfl cl159 (c_end t i u hs hu) rfl rfl ?_
             refine Za ?_
             refine Zn hK59 ?_
             refine Zc (fun hc24 => ?_) fun hc24 => ?_
             ·refine AC_region ?_
              refine Ya fa139_0 ?_
              refine Ys ts3 ?_
              refine Zn hK5 ?_
              refine Zs fun _ hK60 => ?_
              refine YL ts139 ta139 ?_
              refine Zm ?_
              refine Ys ts139 ?_
              refine Za ?_
              refine Zn hK60 ?_
              refine AC_ret ?_
              have H1 : ¬ (smallB (u.toNat : Int) = true ∨ greatB (u.toNat : Int) = true) := by rintro (h | h); rw [hg1] at h; cases h; rw [hc4] at h; cases h
              have H2 : ¬ figB (u.toNat : Int) = true := by rw [hc7]; decide
              have H3 : ¬ (u.toNat : Int) = 39 := of_decide_eq_false hc14
              have H4 : ¬ ((u.toNat : Int) = 33 ∨ (u.toNat : Int) = 59) := by rintro (h | h); exact of_decide_eq_false hg16 h; exact of_decide_eq_false hc17 h
              have H5 : ¬ ((u.toNat : Int) = 40 ∨ (u.toNat : Int) = 41 ∨ (u.toNat : Int) = 91 ∨ (u.toNat : Int) = 93 ∨ (u.toNat : Int) = 44 ∨ (u.toNat : Int) = 124) := by rintro (h | h | h | h | h | h); exact of_decide_eq_false hg18 h; exact of_decide_eq_false hg19 h; exact of_decide_eq_false hg20 h; exact of_decide_eq_false hg21 h; exact of_decide_eq_false hg22 h; exact of_decide_eq_false hc23 h
              exact ret_ok hdm (.cell rfl rfl rfl rfl rfl rfl ts139 ta139 (by rfl) (by intro h; cases h) (.tmp rfl rfl .nil)) (.cons (by exact .agg (.cons .d (.cons .d (.cons .d (.cons .d (.cons .d .nil)))))) (.cons .d .nil)) (sign_ret (signM_e hub H1 H2 H3 H4 H5 hc24))
             ·refine Zs fun _ hK61 => ?_
              refine Zm ?_
              refine AL_fcall0 hT rfl cl160 (c_symbol (u.toNat : Int)) rfl rfl ?_
              refine Za ?_
              refine Zn hK61 ?_
              refine Zc (fun hc25 => ?_) fun hc25 => ?_
              ·refine Zs fun _ hK62 => ?_
               refine Zm ?_
               refine Za ?_
               refine Zn hK62 ?_
               refine AC_seq fun _ hK63 => ?_
               refine AC_block ?_
               refine AC_loopS [0, 1, 4, 7, 8] (Nat) (fun j => [(13, i64 ((j : Nat) : Int))]) (fun q => [some ⟨139, LSG, [.d (injG sg0)]⟩, some ⟨139, LSG, [.d (injG ⟨6, t.extract i (i + 1), 0, i, false⟩)]⟩]) (fun j => t.size - j) (fun j => i ≤ j ∧ j ≤ t.size ∧ i + runL symB ((bts t).drop i) = j + runL symB ((bts t).drop j)) (i) ?_ ?_ ?_
               ·exact enterS [some 0, some 1] rfl rfl (Bx (.cons (.rd .d) .nil) (Bx (.cons (.rd .d) .nil) BxTo_nil)) Sl_
               ·exact ⟨Nat.le_refl _, by omega, rfl⟩
               rintro j ⟨hj0, hj1, hI⟩
               refine AC_seq fun _ hK64 => ?_
               refine Zs fun _ hK65 => ?_
               iterate 2 refine Zm ?_
               refine Ze (Ev_len_str tstr9 rfl) ?_
               refine Ze (Ev_lss rfl rfl) ?_
               refine Zm ?_
               refine Zb 146 (fun hg26 => ?_) fun hg26 => ?_
               ·have hjl : j < t.size := by have := of_decide_eq_true hg26; omega
                have hjbv : j < (bts t).length := by rw [bts_len]; omega
                refine Exists.elim (show ∃ v, (bts t)[j]? = some v from ⟨_, List.getElem?_eq_getElem hjbv⟩) fun v hv => ?_
                have hv2 := bts_get hv
                have hvb := UInt8.toNat_lt v
                have hdr := drop_get hv
                refine Zt ?_
                refine Zm ?_
                refine Zt ?_
                refine Zm ?_
                refine Zt ?_
                refine Ze (Ev_ix_str tstr9 rfl rfl (by omega) (by assumption)) ?_
                refine Zt ?_
                refine AL_fcall0 hT rfl cl160 (c_symbol (v.toNat : Int)) rfl rfl ?_
                refine Zp ?_
                refine Zn hK65 ?_
                refine Zc (fun hc27 => ?_) fun hc27 => ?_
                ·refine Zk hK64 ?_
                 refine AC_block ?_
                 refine AC_region ?_
                 refine Zm ?_
                 refine Ze (Ev_add rfl rfl _ (wrap_id (by omega) (by omega))) ?_
                 refine Za ?_
                 refine AL_nil ?_
                 refine closeS (j + 1) [some 0, some 1] rfl rfl (by show t.size - (j + 1) < t.size - j; omega) ⟨by omega, by omega, by rw [hI, hdr]; simp_all [runL]; omega⟩ (Bx (.cons (.rd .d) .nil) (Bx (.cons (.rd .d) .nil) BxTo_nil)) (SlTo_cons (Vw_int (by rfl)) Sl_)
                ·have hI2 : i + runL symB ((bts t).drop i) = j := by rw [hI, hdr]; simp_all [runL]
                 refine Zx hK63 ?_
                 refine Zs fun _ hK66 => ?_
                 iterate 2 refine Zm ?_
                 refine Ze (Ev_sub rfl rfl _ (wrap_id (by omega) (by omega))) ?_
                 refine Ze (Ev_leq rfl rfl) ?_
                 refine Zn hK66 ?_
                 refine Zc (fun hc28 => ?_) fun hc28 => ?_
                 ·have hn9 : runL symB ((bts t).drop i) ≤ 20 := by have := of_decide_eq_true hc28; omega
                  refine Zs fun _ hK67 => ?_
                  refine Ya fa139_0 ?_
                  refine Ys ts3 ?_
                  refine Zn hK67 ?_
                  refine Zs fun _ hK68 => ?_
                  iterate 3 refine Zm ?_
                  refine Ze (Ev_slice_str tstr9 rfl rfl rfl (by omega) (by omega) (by omega)) ?_
                  refine Ya fa139_1 ?_
                  refine Ys ts9 ?_
                  refine Zn hK68 ?_
                  refine AC_region ?_
                  refine Zm ?_
                  refine Za ?_
                  refine Zn hK5 ?_
                  refine Zs fun _ hK69 => ?_
                  refine YL ts139 ta139 ?_
                  refine Zm ?_
                  refine Ys ts139 ?_
                  refine Za ?_
                  refine Zn hK69 ?_
                  refine AC_ret ?_
                  have H1 : ¬ (smallB (u.toNat : Int) = true ∨ greatB (u.toNat : Int) = true) := by rintro (h | h); rw [hg1] at h; cases h; rw [hc4] at h; cases h
                  have H2 : ¬ figB (u.toNat : Int) = true := by rw [hc7]; decide
                  have H3 : ¬ (u.toNat : Int) = 39 := of_decide_eq_false hc14
                  have H4 : ¬ ((u.toNat : Int) = 33 ∨ (u.toNat : Int) = 59) := by rintro (h | h); exact of_decide_eq_false hg16 h; exact of_decide_eq_false hc17 h
                  have H5 : ¬ ((u.toNat : Int) = 40 ∨ (u.toNat : Int) = 41 ∨ (u.toNat : Int) = 91 ∨ (u.toNat : Int) = 93 ∨ (u.toNat : Int) = 44 ∨ (u.toNat : Int) = 124) := by rintro (h | h | h | h | h | h); exact of_decide_eq_false hg18 h; exact of_decide_eq_false hg19 h; exact of_decide_eq_false hg20 h; exact of_decide_eq_false hg21 h; exact of_decide_eq_false hg22 h; exact of_decide_eq_false hc23 h
                  have H6 : ¬ endB t i = true := by rw [hc24]; decide
                  exact ret_ok hdm (.cell rfl rfl rfl rfl rfl rfl ts139 ta139 (by rfl) (by intro h; cases h) (.tmp rfl rfl .nil)) (.cons (by exact .agg (.cons .d (.cons .d (.cons .d (.cons .d (.cons .d .nil)))))) (.cons .d .nil)) (sign_ret (signM_s hub H1 H2 H3 H4 H5 H6 hc25 hI2 hn9))
                 ·have hn9 : ¬ runL symB ((bts t).drop i) ≤ 20 := by have := of_decide_eq_false hc28; omega
                  refine Zk hK5 ?_
                  refine Zs fun _ hK70 => ?_
                  refine YL ts139 ta139 ?_
                  refine Zm ?_
                  refine Ys ts139 ?_
                  refine Za ?_
                  refine Zn hK70 ?_
                  refine AC_ret ?_
                  have H1 : ¬ (smallB (u.toNat : Int) = true ∨ greatB (u.toNat : Int) = true) := by rintro (h | h); rw [hg1] at h; cases h; rw [hc4] at h; cases h
                  have H2 : ¬ figB (u.toNat : Int) = true := by rw [hc7]; decide
                  have H3 : ¬ (u.toNat : Int) = 39 := of_decide_eq_false hc14
                  have H4 : ¬ ((u.toNat : Int) = 33 ∨ (u.toNat : Int) = 59) := by rintro (h | h); exact of_decide_eq_false hg16 h; exact of_decide_eq_false hc17 h
                  have H5 : ¬ ((u.toNat : Int) = 40 ∨ (u.toNat : Int) = 41 ∨ (u.toNat : Int) = 91 ∨ (u.toNat : Int) = 93 ∨ (u.toNat : Int) = 44 ∨ (u.toNat : Int) = 124) := by rintro (h | h | h | h | h | h); exact of_decide_eq_false hg18 h; exact of_decide_eq_false hg19 h; exact of_decide_eq_false hg20 h; exact of_decide_eq_false hg21 h; exact of_decide_eq_false hg22 h; exact of_decide_eq_false hc23 h
                  have H6 : ¬ endB t i = true := by rw [hc24]; decide
                  exact ret_ok hdm (.cell rfl rfl rfl rfl rfl rfl ts139 ta139 (by rfl) (by intro h; cases h) (.tmp rfl rfl .nil)) (.cons (by exact .d) (.cons .d .nil)) (sign_ret (signM_s0 hub H1 H2 H3 H4 H5 H6 hc25 hn9))
               ·have hge : t.size ≤ j := by have := of_decide_eq_false hg26; omega
                have hI2 : i + runL symB ((bts t).drop i) = j := by rw [hI, List.drop_eq_nil_of_le (by simp; omega)]; rfl
                iterate 4 refine Zg ?_
                refine Zp ?_
                refine Zn hK65 ?_
                refine AC_cond_f rfl ?_
                refine Zx hK63 ?_
                refine Zs fun _ hK71 => ?_
                iterate 2 refine Zm ?_
                refine Ze (Ev_sub rfl rfl _ (wrap_id (by omega) (by omega))) ?_
                refine Ze (Ev_leq rfl rfl) ?_
                refine Zn hK71 ?_
                refine Zc (fun hc29 => ?_) fun hc29 => ?_
                ·have hn9 : runL symB ((bts t).drop i) ≤ 20 := by have := of_decide_eq_true hc29; omega
                 refine Zs fun _ hK72 => ?_
                 refine Ya fa139_0 ?_
                 refine Ys ts3 ?_
                 refine Zn hK72 ?_
                 refine Zs fun _ hK73 => ?_
                 iterate 3 refine Zm ?_
                 refine Ze (Ev_slice_str tstr9 rfl rfl rfl (by omega) (by omega) (by omega)) ?_
                 refine Ya fa139_1 ?_
                 refine Ys ts9 ?_
                 refine Zn hK73 ?_
                 refine AC_region ?_
                 refine Zm ?_
                 refine Za ?_
                 refine Zn hK5 ?_
                 refine Zs fun _ hK74 => ?_
                 refine YL ts139 ta139 ?_
                 refine Zm ?_
                 refine Ys ts139 ?_
                 refine Za ?_
                 refine Zn hK74 ?_
                 refine AC_ret ?_
                 have H1 : ¬ (smallB (u.toNat : Int) = true ∨ greatB (u.toNat : Int) = true) := by rintro (h | h); rw [hg1] at h; cases h; rw [hc4] at h; cases h
                 have H2 : ¬ figB (u.toNat : Int) = true := by rw [hc7]; decide
                 have H3 : ¬ (u.toNat : Int) = 39 := of_decide_eq_false hc14
                 have H4 : ¬ ((u.toNat : Int) = 33 ∨ (u.toNat : Int) = 59) := by rintro (h | h); exact of_decide_eq_false hg16 h; exact of_decide_eq_false hc17 h
                 have H5 : ¬ ((u.toNat : Int) = 40 ∨ (u.toNat : Int) = 41 ∨ (u.toNat : Int) = 91 ∨ (u.toNat : Int) = 93 ∨ (u.toNat : Int) = 44 ∨ (u.toNat : Int) = 124) := by rintro (h | h | h | h | h | h); exact of_decide_eq_false hg18 h; exact of_decide_eq_false hg19 h; exact of_decide_eq_false hg20 h; exact of_decide_eq_false hg21 h; exact of_decide_eq_false hg22 h; exact of_decide_eq_false hc23 h
                 have H6 : ¬ endB t i = true := by rw [hc24]; decide
                 exact ret_ok hdm (.cell rfl rfl rfl rfl rfl rfl ts139 ta139 (by rfl) (by intro h; cases h) (.tmp rfl rfl .nil)) (.cons (by exact .agg (.cons .d (.cons .d (.cons .d (.cons .d (.cons .d .nil)))))) (.cons .d .nil)) (sign_ret (signM_s hub H1 H2 H3 H4 H5 H6 hc25 hI2 hn9))
                ·have hn9 : ¬ runL symB ((bts t).drop i) ≤ 20 := by have := of_decide_eq_false hc29; omega
                 refine Zk hK5 ?_
                 refine Zs fun _ hK75 => ?_
                 refine YL ts139 ta139 ?_
                 refine Zm ?_
                 refine Ys ts139 ?_
                 refine Za ?_
                 refine Zn hK75 ?_
                 refine AC_ret ?_
                 have H1 : ¬ (smallB (u.toNat : Int) = true ∨ greatB (u.toNat : Int) = true) := by rintro (h | h); rw [hg1] at h; cases h; rw [hc4] at h; cases h
                 have H2 : ¬ figB (u.toNat : Int) = true := by rw [hc7]; decide
                 have H3 : ¬ (u.toNat : Int) = 39 := of_decide_eq_false hc14
                 have H4 : ¬ ((u.toNat : Int) = 33 ∨ (u.toNat : Int) = 59) := by rintro (h | h); exact of_decide_eq_false hg16 h; exact of_decide_eq_false hc17 h
                 have H5 : ¬ ((u.toNat : Int) = 40 ∨ (u.toNat : Int) = 41 ∨ (u.toNat : Int) = 91 ∨ (u.toNat : Int) = 93 ∨ (u.toNat : Int) = 44 ∨ (u.toNat : Int) = 124) := by rintro (h | h | h | h | h | h); exact of_decide_eq_false hg18 h; exact of_decide_eq_false hg19 h; exact of_decide_eq_false hg20 h; exact of_decide_eq_false hg21 h; exact of_decide_eq_false hg22 h; exact of_decide_eq_false hc23 h
                 have H6 : ¬ endB t i = true := by rw [hc24]; decide
                 exact ret_ok hdm (.cell rfl rfl rfl rfl rfl rfl ts139 ta139 (by rfl) (by intro h; cases h) (.tmp rfl rfl .nil)) (.cons (by exact .d) (.cons .d .nil)) (sign_ret (signM_s0 hub H1 H2 H3 H4 H5 H6 hc25 hn9))
              ·refine Zk hK5 ?_
               refine Zs fun _ hK76 => ?_
               refine YL ts139 ta139 ?_
               refine Zm ?_
               refine Ys ts139 ?_
               refine Za ?_
               refine Zn hK76 ?_
               refine AC_ret ?_
               have H1 : ¬ (smallB (u.toNat : Int) = true ∨ greatB (u.toNat : Int) = true) := by rintro (h | h); rw [hg1] at h; cases h; rw [hc4] at h; cases h
               have H2 : ¬ figB (u.toNat : Int) = true := by rw [hc7]; decide
               have H3 : ¬ (u.toNat : Int) = 39 := of_decide_eq_false hc14
               have H4 : ¬ ((u.toNat : Int) = 33 ∨ (u.toNat : Int) = 59) := by rintro (h | h); exact of_decide_eq_false hg16 h; exact of_decide_eq_false hc17 h
               have H5 : ¬ ((u.toNat : Int) = 40 ∨ (u.toNat : Int) = 41 ∨ (u.toNat : Int) = 91 ∨ (u.toNat : Int) = 93 ∨ (u.toNat : Int) = 44 ∨ (u.toNat : Int) = 124) := by rintro (h | h | h | h | h | h); exact of_decide_eq_false hg18 h; exact of_decide_eq_false hg19 h; exact of_decide_eq_false hg20 h; exact of_decide_eq_false hg21 h; exact of_decide_eq_false hg22 h; exact of_decide_eq_false hc23 h
               have H6 : ¬ endB t i = true := by rw [hc24]; decide
               exact ret_ok hdm (.cell rfl rfl rfl rfl rfl rfl ts139 ta139 (by rfl) (by intro h; cases h) (.tmp rfl rfl .nil)) (.cons (by exact .d) (.cons .d .nil)) (sign_ret (signM_b hub H1 H2 H3 H4 H5 H6 (by rw [hc25]; decide)))
end Go.Proofs.YtjgliechbnommaaGreatDoor
set_option linter.unusedVariables false
set_option linter.unusedSimpArgs false
namespace Go.Proofs.YtjgliechbnommaaGreatDoor
open Go.Eng
theorem tz94 : tyZero Tryz.prog 94 = some (some (.agg #[.slice none 0 0, .int .i64 0, .int .i64 0])) := by kernel_rfl
theorem cl59 : Callable Tryz.prog 59 := Zq Tryz.func59
theorem cl94 : Callable Tryz.prog 94 := Zq Tryz.func94
theorem fa94_0 : tyField Tryz.prog 94 0 = some (0, true) := by kernel_rfl
theorem fa94_1 : tyField Tryz.prog 94 1 = some (1, true) := by kernel_rfl
theorem fa94_2 : tyField Tryz.prog 94 2 = some (2, true) := by kernel_rfl
theorem ta22 : tyAgg Tryz.prog 22 = some false := by kernel_rfl
theorem ta5 : tyAgg Tryz.prog 5 = some false := by kernel_rfl
theorem tpl94 : tyPlaces Tryz.prog 94 = some (layPlaces 0 [.one, .one, .one]) := by kernel_rfl
theorem ts22 : tySize Tryz.prog 22 = some 1 := by kernel_rfl
set_option maxHeartbeats 1000000 in
set_option maxRecDepth 4000 in
theorem c_byteB (bs : List Int) (ty : TypeId) (i h : Int) (hl : bs.length ≤ lim) (h0 : 0 ≤ i) (h1 : i ≤ bs.length) : HCallR Tryz.prog 94 [] [.ptr LCU 0 0 []] [curBox ty bs i h] 1 (fun q : Int × Int × Int => 0 ≤ q.1 ∧ q.1 ≤ 255 ∧ 0 ≤ q.2.1 ∧ q.2.1 ≤ (bs.length : Int)) (fun q => [i64 q.1]) (fun q => [curBox ty bs q.2.1 q.2.2]) := by
 have hl : bs.length ≤ 1099511627776 := hl
 refine HCallR_of (n := 58) Tryz.func94 rfl rfl (Nat.le_of_ble_eq_true rfl) (Nat.le_of_ble_eq_true rfl) fun C0 o hT hP => ?_
 refine Zs fun _ hK1 => ?_
 refine Za ?_
 refine Zn hK1 ?_
 refine Zs fun _ hK2 => ?_
 iterate 2 refine Zm ?_
 refine Ze (Ev_nilc_ptr rfl) ?_
 refine Ya fa94_2 ?_
 refine Yl ts3 ta3 ?_
 refine Ze (Ev_mul rfl rfl _ rfl) ?_
 refine Ze (Ev_add rfl rfl _ rfl) ?_
 refine Ze (Ev_nilc_ptr rfl) ?_
 refine Ya fa94_2 ?_
 refine Ys ts3 ?_
 refine Zn hK2 ?_
 refine AC_seq fun _ hK3 => ?_
 refine AC_draw hT follows [0, 1, 2, 3, 4, 5, 6, 7, 8, 9, 10, 11, 12] (by kernel_rfl) ?_
 refine DT_ev rfl (EA_move) rfl ?_
 refine DT_ev rfl (EA_nilc_ptr rfl) rfl ?_
 refine DT_ev rfl (EA_fa_ptr rfl fa94_2 rfl rfl) rfl ?_
 refine DT_ev rfl (EA_load_ptr rfl rfl rfl rfl rfl rfl ts3 ta3 rfl (fun _ => rfl)) rfl ?_
 refine DT_ev rfl (EA_shr rfl rfl (by decide)) rfl ?_
 refine DT_ev rfl (EA_move) rfl ?_
 refine DT_ev rfl (EA_nilc_ptr rfl) rfl ?_
 refine DT_ev rfl (EA_fa_ptr rfl fa94_2 rfl rfl) rfl ?_
 refine DT_ev rfl (EA_load_ptr rfl rfl rfl rfl rfl rfl ts3 ta3 rfl (fun _ => rfl)) rfl ?_
 refine DT_ev rfl (EA_shr rfl rfl (by decide)) rfl ?_
 refine DT_ev rfl (EA_xor rfl rfl) rfl ?_
 refine DT_ev rfl (EA_and rfl rfl) rfl ?_
 refine DT_ev rfl (EA_assign) rfl ?_
 refine Zd hK3 ?_
 refine AC_seq fun _ hK4 => ?_
 refine AC_seq fun _ hK5 => ?_
 refine AC_draw hT follows [0, 1, 2, 3, 4, 5, 6, 7, 8, 9] (by kernel_rfl) ?_
 refine DT_ev rfl (EA_move) rfl ?_
 refine DT_ev rfl (EA_nilc_ptr rfl) rfl ?_
 refine DT_ev rfl (EA_fa_ptr rfl fa94_1 rfl rfl) rfl ?_
 refine DT_ev rfl (EA_load_ptr rfl rfl rfl rfl rfl rfl ts3 ta3 rfl (fun _ => rfl)) rfl ?_
 refine DT_ev rfl (EA_move) rfl ?_
 refine DT_ev rfl (EA_nilc_ptr rfl) rfl ?_
 refine DT_ev rfl (EA_fa_ptr rfl fa94_0 rfl rfl) rfl ?_
 refine DT_ev rfl (EA_load_ptr rfl rfl rfl rfl rfl rfl ts22 ta22 rfl (fun _ => rfl)) rfl ?_
 refine DT_ev rfl (EA_len_u8s te22 rfl) rfl ?_
 refine DT_ev rfl (EA_lss rfl rfl) rfl ?_
 refine Zd hK5 ?_
 refine Zc (fun hc1 => ?_) fun hc1 => ?_
 ·have h2 : i < bs.length := by have := of_decide_eq_true hc1; omega
  obtain ⟨j, rfl⟩ : ∃ j : Nat, i = (j : Int) := ⟨i.toNat, by omega⟩
  obtain ⟨u, hu⟩ : ∃ u, bs[j]? = some u := ⟨_, List.getElem?_eq_getElem (by omega)⟩
  have hu2 := u8s_get hu
  refine AC_seq fun _ hK6 => ?_
  refine AC_draw hT follows [0, 1, 2, 3, 4, 5, 6, 7, 8, 9, 10, 11, 12, 13, 14] (by kernel_rfl) ?_
  refine DT_ev rfl (EA_move) rfl ?_
  refine DT_ev rfl (EA_move) rfl ?_
  refine DT_ev rfl (EA_nilc_ptr rfl) rfl ?_
  refine DT_ev rfl (EA_fa_ptr rfl fa94_0 rfl rfl) rfl ?_
  refine DT_ev rfl (EA_load_ptr rfl rfl rfl rfl rfl rfl ts22 ta22 rfl (fun _ => rfl)) rfl ?_
  refine DT_ev rfl (EA_move) rfl ?_
  refine DT_ev rfl (EA_nilc_ptr rfl) rfl ?_
  refine DT_ev rfl (EA_fa_ptr rfl fa94_1 rfl rfl) rfl ?_
  refine DT_ev rfl (EA_load_ptr rfl rfl rfl rfl rfl rfl ts3 ta3 rfl (fun _ => rfl)) rfl ?_
  refine DT_ev rfl (EA_ix_sl rfl rfl te22 ts5 (by omega) (by assumption)) rfl ?_
  refine DT_ev rfl (EA_load_rp rfl rfl rfl ts5 ta5 rfl (fun _ => rfl)) rfl ?_
  refine DT_ev rfl (EA_conv_int tund5 tint3 rfl _ rfl) rfl ?_
  refine DT_ev rfl (EA_add rfl rfl _ rfl) rfl ?_
  refine DT_ev rfl (EA_and rfl rfl) rfl ?_
  refine DT_ev rfl (EA_assign) rfl ?_
  refine Zd hK6 ?_
  refine AC_region ?_
  iterate 2 refine Zm ?_
  refine Ze (Ev_nilc_ptr rfl) ?_
  refine Ya fa94_1 ?_
  refine Yl ts3 ta3 ?_
  refine Ze (Ev_add rfl rfl _ (wrap_id (by omega) (by omega))) ?_
  refine Ze (Ev_nilc_ptr rfl) ?_
  refine Ya fa94_1 ?_
  refine Ys ts3 ?_
  refine Zn hK4 ?_
  refine Zs fun _ hK7 => ?_
  refine Zm ?_
  refine Za ?_
  refine Zn hK7 ?_
  refine AC_ret ?_
  exact retr_ok (_, _, _) ⟨(and255 _).1, (and255 _).2, by show 0 ≤ ((j : Nat) : Int) + 1; omega, by show ((j : Nat) : Int) + 1 ≤ _; omega⟩ [0] (CExt.refl _) (.tmp rfl rfl .nil) rfl rfl (BxF_stay rfl rfl rfl rfl rfl (.cons (.agg (.cons .d (.cons .d (.cons .d .nil)))) .nil) rfl BxF_nil) (Nat.le_refl _) (.cons .d .nil)
 ·refine Zk hK4 ?_
  refine Zs fun _ hK8 => ?_
  refine Zm ?_
  refine Za ?_
  refine Zn hK8 ?_
  refine AC_ret ?_
  exact retr_ok (_, _, _) ⟨(and255 _).1, (and255 _).2, h0, h1⟩ [0] (CExt.refl _) (.tmp rfl rfl .nil) rfl rfl (BxF_stay rfl rfl rfl rfl rfl (.cons (.agg (.cons .d (.cons .d (.cons .d .nil)))) .nil) rfl BxF_nil) (Nat.le_refl _) (.cons .d .nil)
theorem c_byte : DCall Tryz.prog 94 [] (fun r => ∃ x : Int, r = .c (.int .i64 x) ∧ 0 ≤ x ∧ x ≤ 255) :=
 DCall_of_box (A := Int) (Rq := fun bs x i h => 0 ≤ x ∧ x ≤ 255 ∧ 0 ≤ i ∧ i ≤ (bs.length : Int)) (res := fun x => .c (.int .i64 x)) (fun bs ty i h hl h0 h1 => c_byteB bs ty i h hl h0 h1) (fun bs x i h ⟨a, b, c, d⟩ => ⟨⟨x, rfl, a, b⟩, c, d⟩)
set_option maxHeartbeats 2000000 in
set_option maxRecDepth 4000 in
theorem c_new  : NewCur Tryz.prog 40 := by
 refine NewCur_of (n := 32) Tryz.func40 rfl rfl (Nat.le_of_ble_eq_true rfl) fun C bs hdm hT => ?_
 refine Zs fun _ hK1 => ?_
 refine Za ?_
 refine Zn hK1 ?_
 refine Zs fun _ hK2 => ?_
 refine Zm ?_
 refine AL_lim (x := (Operand.tmp 5)) rfl fun hl1 => ?_
 try simp only [injs_length, ints_length, strs_length, injCs_length, u8s_length, List.length_map] at hl1
 refine Ze (Ev_len_u8s te22 rfl) ?_
 refine Ze (Ev_add rfl rfl _ (wrap_id (by omega) (by omega))) ?_
 refine Za ?_
 refine Zn hK2 ?_
 refine AC_seq fun _ hK3 => ?_
 refine Zs fun _ hK4 => ?_
 refine Za ?_
 refine Zn hK4 ?_
 refine AC_block ?_
 refine AC_loopS [0] (Nat × Int) (fun ⟨j, h⟩ => [(4, i64 j), (3, i64 h)]) (fun ⟨j, h⟩ => []) (fun st => bs.length - st.1) (fun ⟨j, h⟩ => (j ≤ bs.length)) ((0, 95101 + (bs.length : Int))) ?_ ?_ ?_
 ·exact enterS [] rfl rfl BxTo_nil Sl_
 ·exact Nat.zero_le _
 rintro ⟨j, h⟩ hj
 show AC _ _ _ _ _ (FS [0] _ [(4, i64 j), (3, i64 h)]) []
 refine AC_seq fun _ hK5 => ?_
 refine Zs fun _ hK6 => ?_
 iterate 2 refine Zm ?_
 refine AL_lim (x := (Operand.tmp 9)) rfl fun hl2 => ?_
 try simp only [injs_length, ints_length, strs_length, injCs_length, u8s_length, List.length_map] at hl2
 refine Ze (Ev_len_u8s te22 rfl) ?_
 refine Ze (Ev_lss rfl rfl) ?_
 refine Zm ?_
 refine Zb 12 (fun hg1 => ?_) fun hg1 => ?_
 ·have h1 : j < bs.length := by have := of_decide_eq_true hg1; omega
  obtain ⟨u, hu⟩ : ∃ u, bs[j]? = some u := ⟨_, List.getElem?_eq_getElem h1⟩
  have hu2 := u8s_get hu
  refine Zt ?_
  refine Zm ?_
  refine Zt ?_
  refine Ze (Ev_lss rfl rfl) ?_
  refine Zp ?_
  refine Zn hK6 ?_
  refine Zc (fun hc2 => ?_) fun hc2 => ?_
  ·refine Zk hK5 ?_
   refine AC_seq fun _ hK7 => ?_
   refine AC_block ?_
   refine AC_region ?_
   refine Zm ?_
   refine Ze (Ev_mul rfl rfl _ rfl) ?_
   iterate 2 refine Zm ?_
   refine Ze (Ev_ix_sl rfl rfl te22 ts5 (by omega) hu2) ?_
   refine Yp ts5 ta5 ?_
   refine Ze (Ev_conv_int tund5 tint3 rfl _ rfl) ?_
   refine Ze (Ev_add rfl rfl _ rfl) ?_
   refine Ze (Ev_add rfl rfl _ rfl) ?_
   refine Ze (Ev_and rfl rfl) ?_
   refine Za ?_
   refine Zn hK7 ?_
   refine AC_region ?_
   refine Zm ?_
   refine Ze (Ev_add rfl rfl _ (wrap_id (by omega) (by omega))) ?_
   refine Za ?_
   refine AL_nil ?_
   refine closeS (j + 1, IntKind.i64.wrap ((BitVec.ofInt IntKind.i64.bits (IntKind.i64.wrap (IntKind.i64.wrap (IntKind.i64.wrap (h * 131) + IntKind.i64.wrap u) + 7)) &&& BitVec.ofInt IntKind.i64.bits 1073741823).toNat : Int)) [] rfl rfl (by show bs.length - (j + 1) < bs.length - j; omega) ?_ BxTo_nil Sl_
   show j + 1 ≤ bs.length; omega
  ·refine Zx hK3 ?_
   refine Zs fun _ hK8 => ?_
   iterate 2 refine Zm ?_
   refine Ze (Ev_build (fs := [.one, .one, .one]) (zs := [.c (.slice none 0 0), .c (.int .i64 0), .c (.int .i64 0)]) tz94 rfl tpl94 (.cons rfl rfl (by rfl) (.cons rfl rfl (by rfl) .nil))) ?_
   refine AL_box (Lay.st [.one, .one, .one]) (nf rfl) rfl (by rfl) _ rfl rfl ?_
   refine Za ?_
   refine Zn hK8 ?_
   refine AC_ret ?_
   exact newcur_ok hdm (.tmp rfl rfl .nil) rfl (Int.le_refl 0) (by omega)
 ·iterate 2 refine Zg ?_
  refine Zp ?_
  refine Zn hK6 ?_
  refine AC_cond_f rfl ?_
  refine Zx hK3 ?_
  refine Zs fun _ hK9 => ?_
  iterate 2 refine Zm ?_
  refine Ze (Ev_build (fs := [.one, .one, .one]) (zs := [.c (.slice none 0 0), .c (.int .i64 0), .c (.int .i64 0)]) tz94 rfl tpl94 (.cons rfl rfl (by rfl) (.cons rfl rfl (by rfl) .nil))) ?_
  refine AL_box (Lay.st [.one, .one, .one]) (nf rfl) rfl (by rfl) _ rfl rfl ?_
  refine Za ?_
  refine Zn hK9 ?_
  refine AC_ret ?_
  exact newcur_ok hdm (.tmp rfl rfl .nil) rfl (Int.le_refl 0) (by omega)
set_option maxHeartbeats 1000000 in
set_option maxRecDepth 4000 in
theorem c_below (m : Int) (hm : m ≤ 4611686018427387904) : DCall Tryz.prog 59 [.c (.int .i64 m)] (fun r => ∃ x : Int, r = .c (.int .i64 x) ∧ 0 ≤ x ∧ (x < m ∨ x = 0)) := by
 refine DCall_of (n := 37) Tryz.func59 rfl rfl (Nat.le_of_ble_eq_true rfl) fun C0 b bs hdm hbl hT hcu => ?_
 have hM := Mk.refl C0 [b]
 refine Zs fun _ hK1 => ?_
 refine Za ?_
 refine Zn hK1 ?_
 refine AC_seq fun _ hK2 => ?_
 refine Zs fun _ hK3 => ?_
 refine Zm ?_
 refine Ze (Ev_leq rfl rfl) ?_
 refine Zn hK3 ?_
 refine Zc (fun hc1 => ?_) fun hc1 => ?_
 ·have h1 := of_decide_eq_true hc1
  refine Zs fun _ hK4 => ?_
  refine Za ?_
  refine Zn hK4 ?_
  refine AC_ret ?_
  exact retd_ok hM hcu hdm (.tmp rfl rfl .nil) .d ⟨0, rfl, Int.le_refl 0, .inr rfl⟩
 ·have h1 : 0 < m := by have := of_decide_eq_false hc1; omega
  refine Zk hK2 ?_
  refine AC_seq fun _ hK5 => ?_
  refine Zs fun _ hK6 => ?_
  refine Zm ?_
  refine Ze (Ev_leq rfl rfl) ?_
  refine Zn hK6 ?_
  refine Zc (fun hc2 => ?_) fun hc2 => ?_
  ·refine Zs fun _ hK7 => ?_
   refine Zm ?_
   refine AL_dcall hT hcu hbl rfl cl94 (c_byte) rfl rfl rfl fun C1 r1 hR1 hM1 hcu hT => ?_
   have hM := hM.trans hM1 (fun c hc _ => hc)
   obtain ⟨x1, rfl, hx1, hy1⟩ := hR1
   refine Zm ?_
   refine Ze (Ev_rem rfl rfl (by omega)) ?_
   refine Za ?_
   refine Zn hK7 ?_
   refine AC_ret ?_
   exact retd_ok hM hcu hdm (.tmp rfl rfl .nil) .d ⟨_, rfl, Int.tmod_nonneg _ hx1, .inl (Int.tmod_lt_of_pos _ h1)⟩
  ·refine Zk hK5 ?_
   refine Zs fun _ hK8 => ?_
   refine Zm ?_
   refine AL_dcall hT hcu hbl rfl cl94 (c_byte) rfl rfl rfl fun C2 r2 hR2 hM2 hcu hT => ?_
   have hM := hM.trans hM2 (fun c hc _ => hc)
   obtain ⟨x2, rfl, hx2, hy2⟩ := hR2
   refine Za ?_
   refine Zn hK8 ?_
   refine Zs fun _ hK9 => ?_
   refine Zm ?_
   refine AL_dcall hT hcu hbl rfl cl94 (c_byte) rfl rfl rfl fun C3 r3 hR3 hM3 hcu hT => ?_
   have hM := hM.trans hM3 (fun c hc _ => hc)
   obtain ⟨x3, rfl, hx3, hy3⟩ := hR3
   refine Za ?_
   refine Zn hK9 ?_
   refine Zs fun _ hK10 => ?_
   refine Zm ?_
   refine AL_dcall hT hcu hbl rfl cl94 (c_byte) rfl rfl rfl fun C4 r4 hR4 hM4 hcu hT => ?_
   have hM := hM.trans hM4 (fun c hc _ => hc)
   obtain ⟨x4, rfl, hx4, hy4⟩ := hR4
   refine Za ?_
   refine Zn hK10 ?_
   refine Zs fun _ hK11 => ?_
   refine Zm ?_
   refine AL_dcall hT hcu hbl rfl cl94 (c_byte) rfl rfl rfl fun C5 r5 hR5 hM5 hcu hT => ?_
   have hM := hM.trans hM5 (fun c hc _ => hc)
   obtain ⟨x5, rfl, hx5, hy5⟩ := hR5
   refine Za ?_
   refine Zn hK11 ?_
   refine Zs fun _ hK12 => ?_
   refine Zm ?_
   refine Ze (Ev_mul rfl rfl _ (wrap_id (by omega) (by omega))) ?_
   refine Zm ?_
   refine Ze (Ev_mul rfl rfl _ (wrap_id (by omega) (by omega))) ?_
   refine Ze (Ev_add rfl rfl _ (wrap_id (by omega) (by omega))) ?_
   refine Zm ?_
   refine Ze (Ev_mul rfl rfl _ (wrap_id (by omega) (by omega))) ?_
   refine Ze (Ev_add rfl rfl _ (wrap_id (by omega) (by omega))) ?_
   refine Zm ?_
   refine Ze (Ev_add rfl rfl _ (wrap_id (by omega) (by omega))) ?_
   refine Zm ?_
   refine Ze (Ev_rem rfl rfl (by omega)) ?_
   refine Za ?_
   refine Zn hK12 ?_
   refine AC_ret ?_
   exact retd_ok hM hcu hdm (.tmp rfl rfl .nil) .d ⟨_, rfl, Int.tmod_nonneg _ (by omega), .inl (Int.tmod_lt_of_pos _ h1)⟩
set_option maxHeartbeats 1000000 in
set_option maxRecDepth 4000 in
theorem c_onceD (m : Int) (hm : m ≤ 4611686018427387904) : DCall Tryz.prog 56 [.c (.int .i64 m)] (fun r => ∃ x : Bool, r = .c (.bool x)) := by
 refine DCall_of (n := 9) Tryz.func56 rfl rfl (Nat.le_of_ble_eq_true rfl) fun C0 b bs hdm hbl hT hcu => ?_
 have hM := Mk.refl C0 [b]
 refine Zs fun _ hK1 => ?_
 refine Za ?_
 refine Zn hK1 ?_
 refine Zs fun _ hK2 => ?_
 iterate 2 refine Zm ?_
 refine AL_dcall hT hcu hbl rfl cl59 (c_below m hm) rfl rfl rfl fun C1 r1 hR1 hM1 hcu hT => ?_
 have hM := hM.trans hM1 (fun c hc _ => hc)
 obtain ⟨x1, rfl, hx1, hy1⟩ := hR1
 refine Ze (Ev_eql rfl rfl) ?_
 refine Za ?_
 refine Zn hK2 ?_
 refine AC_ret ?_
 exact retd_ok hM hcu hdm (.tmp rfl rfl .nil) .d ⟨_, rfl⟩
set_option maxHeartbeats 1000000 in
set_option maxRecDepth 4000 in
theorem c_pick (xs : List ByteArray) (h0 : 0 < xs.length) : DCall Tryz.prog 83 [.sl .one (strs xs)] (fun r => ∃ s ∈ xs, r = .c (.string s)) := by
 refine DCall_of (n := 12) Tryz.func83 rfl rfl (Nat.le_of_ble_eq_true rfl) fun C0 b bs hdm hbl hT hcu => ?_
 have hM := Mk.refl C0 [b]
 refine Zs fun _ hK1 => ?_
 refine Za ?_
 refine Zn hK1 ?_
 refine Zs fun _ hK2 => ?_
 iterate 3 refine Zm ?_
 refine AL_lim (x := (Operand.tmp 7)) rfl fun hl1 => ?_
 try simp only [injs_length, ints_length, strs_length, injCs_length, u8s_length, List.length_map] at hl1
 refine Ze (Ev_len_strs te25 rfl) ?_
 refine AL_dcall hT hcu hbl rfl cl59 (c_below xs.length (by omega)) rfl rfl rfl fun C1 r1 hR1 hM1 hcu hT => ?_
 have hM := hM.trans hM1 (fun c hc _ => hc)
 obtain ⟨x1, rfl, hx1, hy1⟩ := hR1
 obtain ⟨j, rfl⟩ : ∃ j : Nat, x1 = (j : Int) := ⟨x1.toNat, by omega⟩
 obtain ⟨u, hu⟩ : ∃ u, xs[j]? = some u := ⟨_, List.getElem?_eq_getElem (by omega)⟩
 have hu2 := strs_get hu
 refine Yi te25 ts9 ?_
 refine Yp ts9 ta9 ?_
 refine Za ?_
 refine Zn hK2 ?_
 refine AC_ret ?_
 exact retd_ok hM hcu hdm (.tmp rfl rfl .nil) .d ⟨u, List.mem_of_getElem? hu, rfl⟩
set_option maxHeartbeats 1000000 in
set_option maxRecDepth 4000 in
theorem c_var03 (m : Int) : PCall Tryz.prog 118 [.c (.int .i64 m)] (· = [inj (.mk 1 ⟨#[]⟩ m [])]) := by
 refine PCall_of (n := 5) Tryz.func118 rfl rfl (Nat.le_of_ble_eq_true rfl) fun C hdm hT0 => ?_
 have hT := hT0
 refine Zs fun _ hK1 => ?_
 refine AL_alloc zo41 _ rfl rfl ?_
 refine Zn hK1 ?_
 refine Zs fun _ hK2 => ?_
 refine Zm ?_
 refine Ze (Ev_build (fs := [.one, .one, .one, .one]) (zs := [.c (.int .i64 0), .c (.string ⟨#[]⟩), .c (.int .i64 0), .c (.slice none 0 0)]) tz41 rfl tpl41 (.cons rfl rfl (by rfl) (.cons rfl rfl (by rfl) .nil))) ?_
 refine Ys ts41 ?_
 refine Zn hK2 ?_
 refine AC_ret ?_
 exact ret_ok hdm (.cell rfl rfl rfl rfl rfl rfl ts41 ta41 rfl (by intro h; cases h) .nil) (.cons (.agg (.cons .d (.cons .d (.cons .d (.cons .nil .nil))))) .nil) rfl
set_option maxHeartbeats 1000000 in
set_option maxRecDepth 4000 in
theorem c_num03 (m : Int) : PCall Tryz.prog 119 [.c (.int .i64 m)] (· = [inj (.mk 3 ⟨#[]⟩ m [])]) := by
 refine PCall_of (n := 5) Tryz.func119 rfl rfl (Nat.le_of_ble_eq_true rfl) fun C hdm hT0 => ?_
 have hT := hT0
 refine Zs fun _ hK1 => ?_
 refine AL_alloc zo41 _ rfl rfl ?_
 refine Zn hK1 ?_
 refine Zs fun _ hK2 => ?_
 refine Zm ?_
 refine Ze (Ev_build (fs := [.one, .one, .one, .one]) (zs := [.c (.int .i64 0), .c (.string ⟨#[]⟩), .c (.int .i64 0), .c (.slice none 0 0)]) tz41 rfl tpl41 (.cons rfl rfl (by rfl) (.cons rfl rfl (by rfl) .nil))) ?_
 refine Ys ts41 ?_
 refine Zn hK2 ?_
 refine AC_ret ?_
 exact ret_ok hdm (.cell rfl rfl rfl rfl rfl rfl ts41 ta41 rfl (by intro h; cases h) .nil) (.cons (.agg (.cons .d (.cons .d (.cons .d (.cons .nil .nil))))) .nil) rfl
set_option maxHeartbeats 1000000 in
set_option maxRecDepth 4000 in
theorem c_atom03 (s : ByteArray) : PCall Tryz.prog 58 [.c (.string s)] (· = [inj (.mk 2 s 0 [])]) := by
 refine PCall_of (n := 5) Tryz.func58 rfl rfl (Nat.le_of_ble_eq_true rfl) fun C hdm hT0 => ?_
 have hT := hT0
 refine Zs fun _ hK1 => ?_
 refine AL_alloc zo41 _ rfl rfl ?_
 refine Zn hK1 ?_
 refine Zs fun _ hK2 => ?_
 refine Zm ?_
 refine Ze (Ev_build (fs := [.one, .one, .one, .one]) (zs := [.c (.int .i64 0), .c (.string ⟨#[]⟩), .c (.int .i64 0), .c (.slice none 0 0)]) tz41 rfl tpl41 (.cons rfl rfl (by rfl) (.cons rfl rfl (by rfl) .nil))) ?_
 refine Ys ts41 ?_
 refine Zn hK2 ?_
 refine AC_ret ?_
 exact ret_ok hdm (.cell rfl rfl rfl rfl rfl rfl ts41 ta41 rfl (by intro h; cases h) .nil) (.cons (.agg (.cons .d (.cons .d (.cons .d (.cons .nil .nil))))) .nil) rfl
end Go.Proofs.YtjgliechbnommaaGreatDoor
