/- The end of a call on data. No conditions. -/
import Derived.Test.YtfddchjmpmjcfaaGreatS0
import Derived.Test.YtfddchjmpmjcfaaGreatFwD
set_option linter.unusedVariables false
set_option linter.unusedSimpArgs false
namespace Go.Fw
open Go
/-- All handles of these are rows, each is new: they are reached in their order. -/
theorem reach_rows {g : Nat → Option Blk} : ∀ (k : Nat) (todo seen : List Nat), todo.length < k → (∀ h ∈ todo, ∃ l, g h = some (.row true l)) → nodup (seen ++ todo) = true → reach g 0 k todo seen = seen ++ todo
  | 0, _, _, h, _, _ => by omega
  | k + 1, [], seen, _, _, _ => by simp [reach]
  | k + 1, h :: t, seen, hk, hg, hn => by
    obtain ⟨l, hl⟩ := hg h List.mem_cons_self
    simp only [reach]
    rw [if_neg (by omega)]
    obtain ⟨_, _, h3⟩ := nodup_split hn
    have hns : seen.contains h = false := by
      simp only [List.contains_eq_mem, decide_eq_false_iff_not]
      exact fun hm => h3 h hm List.mem_cons_self
    rw [hns, hl]
    simp only [Bool.false_eq_true, if_false, Blk.hs, List.nil_append]
    rw [reach_rows k t (seen ++ [h]) (by simpa using hk) (fun x hx => hg x (List.mem_cons_of_mem _ hx)) (by simpa using hn)]
    simp
mutual
theorem ownAll_rows {g : Nat → Option Blk} : ∀ (v : V), ownAll g v = true → ∀ h ∈ v.hs, ∃ l, g h = some (.row true l)
  | .int _ _, _, h, hh => by simp [V.hs] at hh
  | .bool _, _, h, hh => by simp [V.hs] at hh
  | .d _, _, h, hh => by simp [V.hs] at hh
  | .agg l, ho, h, hh => ownAlls_rows l (by simpa [ownAll] using ho) h (by simpa [V.hs] using hh)
  | .sl a b c d, ho, h, hh => by
    simp only [V.hs, List.mem_singleton] at hh
    subst hh
    simp only [ownAll] at ho
    split at ho
    · rename_i l hl; exact ⟨l, hl⟩
    · cases ho
  | .asl _ _, ho, _, _ => by simp [ownAll] at ho
  | .ptr _ _, ho, _, _ => by simp [ownAll] at ho
  | .rp _, ho, _, _ => by simp [ownAll] at ho
  | .clo _ _ _, ho, _, _ => by simp [ownAll] at ho
  | .map _, ho, _, _ => by simp [ownAll] at ho
  | .tup _, ho, _, _ => by simp [ownAll] at ho
  | .und, ho, _, _ => by simp [ownAll] at ho
theorem ownAlls_rows {g : Nat → Option Blk} : ∀ (l : List V), ownAlls g l = true → ∀ h ∈ V.hss l, ∃ l, g h = some (.row true l)
  | [], _, h, hh => by simp [V.hss] at hh
  | v :: l, ho, h, hh => by
    simp only [V.hss, List.mem_append] at hh
    simp only [ownAlls, Bool.and_eq_true] at ho
    rcases hh with hh | hh
    · exact ownAll_rows v ho.1 h hh
    · exact ownAlls_rows l ho.2 h hh
end
mutual
theorem toD_ren {g g' : Nat → Option Blk} {r : Nat → Nat} : ∀ (v : V), (∀ h ∈ v.hs, g' (r h) = g h) → toD g' (v.ren r) = toD g v
  | .int _ _, _ => rfl
  | .bool _, _ => rfl
  | .d _, _ => rfl
  | .agg l, h => by simp only [V.ren, toD]; rw [toDs_ren l (by simpa [V.hs] using h)]
  | .asl _ _, _ => rfl
  | .sl _ hh _ _, h => by simp only [V.ren, toD]; rw [h hh (by simp [V.hs])]
  | .ptr _ _, _ => rfl
  | .rp _, _ => rfl
  | .clo _ _ _, _ => rfl
  | .map _, _ => rfl
  | .tup _, _ => rfl
  | .und, _ => rfl
theorem toDs_ren {g g' : Nat → Option Blk} {r : Nat → Nat} : ∀ (l : List V), (∀ h ∈ V.hss l, g' (r h) = g h) → toDs g' (V.rens r l) = toDs g l
  | [], _ => rfl
  | v :: l, h => by
    simp only [V.rens, toDs]
    rw [toD_ren v (fun x hx => h x (by simp [V.hss, hx])), toDs_ren l (fun x hx => h x (by simp [V.hss, hx]))]
end
mutual
theorem ownAll_ren {g g' : Nat → Option Blk} {r : Nat → Nat} : ∀ (v : V), (∀ h ∈ v.hs, g' (r h) = g h) → ownAll g' (v.ren r) = ownAll g v
  | .int _ _, _ => rfl
  | .bool _, _ => rfl
  | .d _, _ => rfl
  | .agg l, h => by simp only [V.ren, ownAll]; rw [ownAlls_ren l (by simpa [V.hs] using h)]
  | .asl _ _, _ => rfl
  | .sl _ hh _ _, h => by simp only [V.ren, ownAll]; rw [h hh (by simp [V.hs])]
  | .ptr _ _, _ => rfl
  | .rp _, _ => rfl
  | .clo _ _ _, _ => rfl
  | .map _, _ => rfl
  | .tup _, _ => rfl
  | .und, _ => rfl
theorem ownAlls_ren {g g' : Nat → Option Blk} {r : Nat → Nat} : ∀ (l : List V), (∀ h ∈ V.hss l, g' (r h) = g h) → ownAlls g' (V.rens r l) = ownAlls g l
  | [], _ => rfl
  | v :: l, h => by
    simp only [V.rens, ownAlls]
    rw [ownAll_ren v (fun x hx => h x (by simp [V.hss, hx])), ownAlls_ren l (fun x hx => h x (by simp [V.hss, hx]))]
end
theorem vsOf_ren (r : Nat → Nat) (v : V) : vsOf (v.ren r) = V.rens r (vsOf v) := by
  cases v <;> first | rfl | simp [vsOf, V.ren, V.rens]
theorem vsOf_hs {g : Nat → Option Blk} (v : V) (h : ownAlls g (vsOf v) = true) : v.hs = V.hss (vsOf v) := by
  cases v <;> first | (simp [vsOf, V.hss, V.hs]; done) | (simp [vsOf, ownAlls, ownAll] at h; done)
theorem nodup_map_inj {r : Nat → Nat} : ∀ {l : List Nat}, nodup l = true → (∀ a ∈ l, ∀ b ∈ l, r a = r b → a = b) → nodup (l.map r) = true
  | [], _, _ => rfl
  | a :: l, hn, hi => by
    rw [nodup_cons] at hn
    rw [List.map_cons, nodup_cons]
    refine ⟨fun hm => ?_, nodup_map_inj hn.2 (fun x hx y hy => hi x (List.mem_cons_of_mem _ hx) y (List.mem_cons_of_mem _ hy))⟩
    obtain ⟨b, hb, e⟩ := List.mem_map.1 hm
    have := hi b (List.mem_cons_of_mem _ hb) a List.mem_cons_self e
    subst this
    exact hn.1 hb
theorem outer_zero : ∀ (h : Hp), outer 0 h = []
  | [] => rfl
  | (k, b) :: l => by simp [outer, outer_zero l]
/-- What a call on data hands back, in the memory that it had. -/
theorem fin {v : V} {e : Env} {h : Hp} {n : Nat} (ho : ownAlls (hlook h) (vsOf v) = true) (hn : apartHs (V.hss (vsOf v)) = true) (hl : (V.hss (vsOf v)).length < 4096) : valK (canK (canon [(0, v)] ⟨e, h, fun _ => none, 0, n⟩)) = dsK (toDs (hlook h) (vsOf v)) := by
  have hg : St.g ⟨e, h, fun _ => none, 0, n⟩ = hlook h := by
    funext x
    simp only [St.g]
    cases hlook h x <;> rfl
  have hvs := vsOf_hs (g := hlook h) v ho
  have hrows := ownAlls_rows _ ho
  rw [apart_nodup] at hn
  have hreach : reach (hlook h) 0 4096 v.hs [] = v.hs := by
    rw [reach_rows 4096 v.hs [] (by rw [hvs]; exact hl) (by rw [hvs]; exact hrows) (by rw [hvs]; simpa using hn)]
    simp
  have hall : ∀ x ∈ v.hs ++ hpHs (gathered (hlook h) id 0 v.hs), x ∈ v.hs := by
    intro x hx
    rcases List.mem_append.1 hx with hx | hx
    · exact hx
    · exfalso
      have key : ∀ (l : List Nat) (m : Nat), (∀ y ∈ l, ∃ z, hlook h y = some (.row true z)) → hpHs (gathered (hlook h) id m l) = [] := by
        intro l
        induction l with
        | nil => intro m _; rfl
        | cons y l ih =>
          intro m hy
          obtain ⟨z, hz⟩ := hy y List.mem_cons_self
          simp only [gathered, hz, hpHs, Blk.ren, Blk.hs, List.nil_append]
          exact ih (m + 1) (fun y' hy' => hy y' (List.mem_cons_of_mem _ hy'))
      rw [key v.hs 0 (by rw [hvs]; exact hrows)] at hx
      cases hx
  have hcan : canon [(0, v)] ⟨e, h, fun _ => none, 0, n⟩ = some { env := [(0, v.ren (renOf 0 v.hs))], hp := gathered (hlook h) (renOf 0 v.hs) 0 v.hs, tl := fun _ => none, base := 0, next := v.hs.length } := by
    simp only [canon, hg, outer_zero, envHs, hpHs, List.append_nil, hreach]
    rw [if_pos]
    · simp [envRen, hpRen]
    · rw [List.all_eq_true]
      intro x hx
      simp only [Bool.or_eq_true, decide_eq_true_eq]
      right
      rw [List.contains_eq_mem]
      exact decide_eq_true (hall x hx)
  rw [hcan]
  simp only [canK, look, if_true, valK]
  have hnd : nodup v.hs = true := by rw [hvs]; exact hn
  have hgat : ∀ x ∈ v.hs, hlook (gathered (hlook h) (renOf 0 v.hs) 0 v.hs) (renOf 0 v.hs x) = hlook h x := by
    intro x hx
    have hx' := hx
    rw [hvs] at hx'
    obtain ⟨l, hl⟩ := hrows x hx'
    have er : renOf 0 v.hs x = idx v.hs x := by simp [renOf]
    rw [er, hlook_gathered]
    rw [if_pos (Nat.zero_le _)]
    have := idx_get v.hs x hx
    simp only [Nat.zero_add, Nat.sub_zero, this, Option.map_some, hl]
    rfl
  have hgat' : ∀ x ∈ V.hss (vsOf v), hlook (gathered (hlook h) (renOf 0 v.hs) 0 v.hs) (renOf 0 v.hs x) = hlook h x := fun x hx => hgat x (by rw [hvs]; exact hx)
  rw [vsOf_ren, ownAlls_ren _ hgat', ho, toDs_ren _ hgat', rens_hss, apart_nodup]
  rw [nodup_map_inj hn (fun a ha b hb hab => ?_)]
  · rfl
  · rw [← hvs] at ha hb
    simp only [renOf] at hab
    rw [if_neg (by omega), if_neg (by omega)] at hab
    have e1 := idx_get v.hs a ha
    have e2 := idx_get v.hs b hb
    have : idx v.hs a = idx v.hs b := by omega
    rw [this, e2] at e1
    injection e1 with e1
    exact e1.symm
theorem fin_int {k : IntKind} {x : Int} {e : Env} {h : Hp} {n : Nat} : valK (canK (canon [(0, .int k x)] ⟨e, h, fun _ => none, 0, n⟩)) = some (.ds [.int k x]) := by rw [fin rfl rfl (by simp [vsOf, V.hss, V.hs])]; rfl
theorem fin_bool {x : Bool} {e : Env} {h : Hp} {n : Nat} : valK (canK (canon [(0, .bool x)] ⟨e, h, fun _ => none, 0, n⟩)) = some (.ds [.bool x]) := by rw [fin rfl rfl (by simp [vsOf, V.hss, V.hs])]; rfl
end Go.Fw
