/- Rows of clauses while they are marked. -/
import Derived.Test.YtleahipnknainaaDoorEng27
set_option linter.unusedVariables false
namespace Go.Eng
theorem ixe (j m d1 d2 : Nat) : 0 + ((j : Nat) : Int).toNat * m + d1 + d2 = m * j + (d1 + d2) := by
  rw [Int.toNat_natCast, Nat.zero_add, Nat.mul_comm, Nat.add_assoc]
theorem ixe1 (j m d1 : Nat) : 0 + ((j : Nat) : Int).toNat * m + d1 = m * j + d1 := by
  rw [Int.toNat_natCast, Nat.zero_add, Nat.mul_comm]
theorem lt9 {cur : List Value} {N n j o r : Nat} (hcl : cur.length = N * 9) (hn : n ≤ N) (hj : j < n) (ho : o = 9 * j + r) (hr : r < 9) : o < cur.length := by omega
theorem cls_store {C C0 D : Cx} {b : Nat} {K' : List Nat} {cur As : List Value} {ty : TypeId} {N n o j r : Nat} {v : Value} (hM : Mk C0 (b :: K') C) (hcl : cur.length = N) (hsh : ShC cur As n) (hk : Mk C [b] D) (hb : Blk D b (cur.set o v) ty) (ho : o = 9 * j + r) (hr : r < 9 ∧ r ≠ 3 ∧ r ≠ 7) :
    Mk C0 (b :: K') D ∧ ∃ cur', Blk D b cur' ty ∧ cur'.length = N ∧ ShC cur' As n :=
  ⟨hM.trans hk (fun x hx _ => by rw [List.mem_singleton] at hx; simp [hx]), _, hb, by simpa using hcl, hsh.set _ _ fun i => by subst ho; constructor <;> omega⟩
theorem HasK.mk1 {C D : Cx} {ts : List T} {As : List Value} {K : List Nat} {b : Nat} (h : HasK C ts As K) (hk : Mk C [b] D) (hn : b ∉ K) : HasK D ts As K :=
  h.marked hk fun x hx hx2 => by rw [List.mem_singleton] at hx2; exact hn (hx2 ▸ hx)
theorem Has.mk1 {C E : Cx} {B : Nat} {d : D} {cs : List Value} {K : List Nat} {b : Nat} (h : Has B C d cs K) (hk : Mk C [b] E) (hn : b ∉ K) : Has B E d cs K :=
  h.marked hk fun x hx hx2 => by rw [List.mem_singleton] at hx2; exact hn (hx2 ▸ hx)
theorem bulk_kids (t : T) : (t.kids.length : Int) + bulkL t.kids ≤ bulk t := by
  obtain ⟨k, s, m, ks⟩ := t
  simp only [T.kids, bulk, bulkS_eq]
  omega
theorem cntCs_bulk : ∀ cs : List Cl, cntCs cs ≤ 7 * cs.length + 3 * bulkCs cs
  | [] => by simp [cntCs, bulkCs]
  | c :: r => by
    have h1 := cntCs_bulk r
    have h2 := bulk_kids c.h
    have h3 := bulk_kids c.b
    have h4 := szs_bulk c.h.kids
    have h5 := szs_bulk c.b.kids
    simp only [cntCs, cntC, bulkCs, bulkC, cntL_sz, List.length_cons]
    push_cast
    omega
end Go.Eng
