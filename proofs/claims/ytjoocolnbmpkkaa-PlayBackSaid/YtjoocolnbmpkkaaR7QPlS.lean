/- Steps as bytes, the document's. No conditions. -/
import Derived.Test.YtjoocolnbmpkkaaR7QPlR
import Derived.Test.YtjoocolnbmpkkaaR7QPlI
set_option linter.unusedVariables false
set_option linter.unusedSimpArgs false
namespace Go.Cd
open Go Go.Fw
/-- A step as bytes. -/
def stB (s : Sp) : List Int :=
  u8w s.kind :: (if s.kind = 4 then [u8w s.a] else if s.kind = 5 then beB 2 (u64w s.n) else if s.kind = 1 then callB s.cl else [])
def isU8 : D → Bool
  | .int .u8 _ => true
  | _ => false
def RwOk (o : Option Blk) (n : Nat) : Prop := ∃ R, o = some (.row true R) ∧ R.all isU8 = true ∧ n = R.length ∧ R.length ≤ 90000
theorem rwOk_mk (R : List D) (n : Nat) : RwOk (some (.row true R)) n ↔ (R.all isU8 = true ∧ n = R.length ∧ R.length ≤ 90000) := by
  constructor
  · rintro ⟨R', h, r⟩
    injection h with h
    injection h with _ h
    subst h
    exact r
  · exact fun h => ⟨R, rfl, h⟩
def rwOf (o : Option Blk) : List D := match o with
  | some (.row _ R) => R
  | _ => []
theorem rwOf_mk (o : Bool) (R : List D) : rwOf (some (.row o R)) = R := rfl
theorem all_u8 (l : List Int) : (l.map u8d).all isU8 = true := by
  rw [List.all_eq_true]
  intro x hx
  obtain ⟨y, _, rfl⟩ := List.mem_map.1 hx
  rfl
theorem isU8_mk (x : Int) : isU8 (.int .u8 x) = true := rfl
theorem of_isU8 {R : List D} (h : R.all isU8 = true) : ∃ l : List Int, R = l.map u8d := by
  induction R with
  | nil => exact ⟨[], rfl⟩
  | cons x R ih =>
    rw [List.all_cons, Bool.and_eq_true] at h
    obtain ⟨l, rfl⟩ := ih h.2
    obtain ⟨v, rfl⟩ : ∃ v, x = u8d v := by
      unfold isU8 at h
      split at h
      · exact ⟨_, rfl⟩
      · cases h.1
    exact ⟨v :: l, rfl⟩
theorem high_c (tl : Nat → Option Blk) (b h n : Nat) (v : Int) (m : Nat) (hb : h < b) (hm : m ≤ 8) (ht : RwOk (tl h) n) :
    run kp (.call f_ref27_high [.sl false h 0 n, .int .u64 (u64w v), .int .i64 m] tl b) = some (.val (.sl false b 0 (n + m)) [(h, .dead), (b, .row true (rwOf (tl h) ++ (beB m (u64w v)).map u8d))] (b + 1)) := by
  obtain ⟨R, e, h1, h2, h3⟩ := ht
  obtain ⟨l, rfl⟩ := of_isU8 h1
  rw [List.length_map] at h2 h3
  rw [high_call tl b h n hb (u64w v) (by unfold u64w; rw [wrap_u64_mod]; omega) m hm l e h2 (by omega), e, rwOf_mk, beB_len, h2, List.map_append]
theorem high_c2 (tl : Nat → Option Blk) (b h n : Nat) (v : Int) (hb : h < b) (ht : RwOk (tl h) n) : run kp (.call f_ref27_high [.sl false h 0 n, .int .u64 (IntKind.u64.wrap v), .int .i64 2] tl b) = some (.val (.sl false b 0 (n + 2)) [(h, .dead), (b, .row true (rwOf (tl h) ++ (beB 2 (u64w v)).map u8d))] (b + 1)) := high_c tl b h n v 2 hb (by omega) ht
theorem high_c4 (tl : Nat → Option Blk) (b h n : Nat) (v : Int) (hb : h < b) (ht : RwOk (tl h) n) : run kp (.call f_ref27_high [.sl false h 0 n, .int .u64 (IntKind.u64.wrap v), .int .i64 4] tl b) = some (.val (.sl false b 0 (n + 4)) [(h, .dead), (b, .row true (rwOf (tl h) ++ (beB 4 (u64w v)).map u8d))] (b + 1)) := high_c tl b h n v 4 hb (by omega) ht
theorem high_c8 (tl : Nat → Option Blk) (b h n : Nat) (v : Int) (hb : h < b) (ht : RwOk (tl h) n) : run kp (.call f_ref27_high [.sl false h 0 n, .int .u64 (IntKind.u64.wrap v), .int .i64 8] tl b) = some (.val (.sl false b 0 (n + 8)) [(h, .dead), (b, .row true (rwOf (tl h) ++ (beB 8 (u64w v)).map u8d))] (b + 1)) := high_c tl b h n v 8 hb (by omega) ht
theorem rcd_c (tl : Nat → Option Blk) (b h n : Nat) (L : List Inst) (nl : Bool) (hb : h < b) (hL : L.length ≤ 1000) (ht : RwOk (tl h) n) :
    run kp (.call f_ref27_code [.sl false h 0 n, .asl nl (L.map Inst.d)] tl b) = some (.val (.sl false b 0 (n + (prB L).length)) [(h, .dead), (b, .row true (rwOf (tl h) ++ (prB L).map u8d))] (b + 1)) := by
  obtain ⟨R, e, h1, h2, h3⟩ := ht
  obtain ⟨l, rfl⟩ := of_isU8 h1
  rw [List.length_map] at h2 h3
  rw [rcode_call tl b h n hb L nl hL l e h2 (by omega), e, rwOf_mk, h2, List.map_append]
set_option maxRecDepth 10000 in
set_option maxHeartbeats 16000000 in
theorem ref27_put (s : Sp) (hc : s.cl.lite) : run kp (.data f_ref27_put [s.d]) = some (.ds [.sl false ((stB s).map u8d)]) := by
  obtain ⟨sk, ⟨kind, rank, period, stop, ⟨mn, m⟩, ⟨wn, w⟩, ⟨on, o⟩, at_, gen, a, n, mask⟩, sa, sn⟩ := s
  obtain ⟨hm, hw, ho⟩ := hc
  simp only at hm hw ho
  have l1 := prB_len m
  have l2 := prB_len w
  have l3 := prB_len o
  have p1 := fun tl b h n hb ht => rcd_c tl b h n m mn hb hm ht
  have p2 := fun tl b h n hb ht => rcd_c tl b h n w wn hb hw ht
  have p3 := fun tl b h n hb ht => rcd_c tl b h n o on hb ho ht
  rw [run_data, run_call, kp_ref27_put]
  unfold stB callB restB
  simp only
  generalize prB m = pm at *
  generalize prB w = pw at *
  generalize prB o = po at *
  by_cases k4 : sk = 4
  · subst k4
    simp [k_ref27_put, Sp.d, Cl.d, rowD, u8d]
  by_cases k5 : sk = 5
  · subst k5
    simp [k_ref27_put, Sp.d, Cl.d, rowD, high_c2, rwOk_mk, rwOf_mk, isU8_mk, all_u8, u8d, tkB, beB_len, gOf, hlook]
  by_cases k1 : sk = 1
  · subst k1
    by_cases h1 : kind = 1
    · subst h1
      have g1 : pm.length ≤ 89989 := by omega
      have g2 : pm.length + pw.length ≤ 89989 := by omega
      simp +arith [g1, g2, k_ref27_put, Sp.d, Cl.d, rowD, high_c4, p1, p2, p3, rwOk_mk, rwOf_mk, isU8_mk, all_u8, u8d, tkB, beB_len, gOf, hlook]
      exact List.take_of_length_le (by simp [beB_len]; omega)
    by_cases h6 : kind = 6
    · subst h6
      simp +arith [k_ref27_put, Sp.d, Cl.d, rowD, high_c4, high_c8, rwOk_mk, rwOf_mk, isU8_mk, all_u8, u8d, tkB, beB_len, hanB, gOf, hlook]
    by_cases h7 : kind = 7
    · subst h7
      simp +arith [k_ref27_put, Sp.d, Cl.d, rowD, high_c4, high_c8, rwOk_mk, rwOf_mk, isU8_mk, all_u8, u8d, tkB, beB_len, hanB, gOf, hlook]
    by_cases h8 : kind = 8
    · subst h8
      simp +arith [k_ref27_put, Sp.d, Cl.d, rowD, high_c4, high_c8, rwOk_mk, rwOf_mk, isU8_mk, all_u8, u8d, tkB, beB_len, hanB, gOf, hlook]
    by_cases h9 : kind = 9
    · subst h9
      simp +arith [k_ref27_put, Sp.d, Cl.d, rowD, high_c4, high_c8, rwOk_mk, rwOf_mk, isU8_mk, all_u8, u8d, tkB, beB_len, hanB, gOf, hlook]
    by_cases h10 : kind = 10
    · subst h10
      simp +arith [k_ref27_put, Sp.d, Cl.d, rowD, high_c4, high_c8, rwOk_mk, rwOf_mk, isU8_mk, all_u8, u8d, tkB, beB_len, hanB, gOf, hlook]
    by_cases h11 : kind = 11
    · subst h11
      simp +arith [k_ref27_put, Sp.d, Cl.d, rowD, high_c4, high_c8, rwOk_mk, rwOf_mk, isU8_mk, all_u8, u8d, tkB, beB_len, hanB, gOf, hlook]
    simp [k_ref27_put, Sp.d, Cl.d, rowD, high_c4, high_c8, rwOk_mk, rwOf_mk, isU8_mk, all_u8, u8d, tkB, beB_len, hanB, gOf, hlook, h1, h6, h7, h8, h9, h10, h11]
  simp [k_ref27_put, Sp.d, Cl.d, rowD, k1, k4, k5, u8d]
end Go.Cd
