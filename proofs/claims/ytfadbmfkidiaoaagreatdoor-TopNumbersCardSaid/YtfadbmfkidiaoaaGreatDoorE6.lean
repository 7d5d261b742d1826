/- Numbers returned. -/
import Derived.Test.YtfadbmfkidiaoaaGreatDoorK4
namespace Go.Proofs.YtfadbmfkidiaoaaGreatDoor
open Go.RowKit Go Go.MapKept

/-- is the block that is left of a name the last that was taken? -/
def ends (F : Lf) (f : Bool → Option Nat) (k : Bool) : Bool := (F k).isSome && decide ((lf F k).1 + (lf F k).2 = nx f k)
def nB (F : Lf) : List Bool := (if (F false).isSome then [false] else []) ++ (if (F true).isSome then [true] else [])
theorem namesOf_eq (F : Lf) : namesOf F = (nB F).map nm := by
  unfold namesOf nB
  cases (F false).isSome <;> cases (F true).isSome <;> rfl
theorem nB_mem (F : Lf) (k : Bool) : k ∈ nB F ↔ (F k).isSome = true := by
  unfold nB
  cases k <;> cases (F false).isSome <;> cases (F true).isSome <;> simp
theorem nB_nodup (F : Lf) : (nB F).Nodup := by
  unfold nB
  cases (F false).isSome <;> cases (F true).isSome <;> decide
theorem nB_len (F : Lf) : (nB F).length ≤ 2 := by
  unfold nB
  cases (F false).isSome <;> cases (F true).isSome <;> decide
def rs (F : Lf) (f : Bool → Option Nat) : List Bool := (nB F).filter (ends F f)
/-- what is left, and the map, when some names have been returned -/
def retF (F : Lf) (l : List Bool) : Lf := fun k => if k ∈ l then none else F k
def retf (F : Lf) (f : Bool → Option Nat) (l : List Bool) : Bool → Option Nat := fun k => if k ∈ l then some (lf F k).1 else f k
theorem retF_snoc (F : Lf) (l : List Bool) (k : Bool) : retF F (l ++ [k]) = upd (retF F l) k none := by
  funext j; unfold retF upd; by_cases h : j = k <;> simp [h]
theorem retf_snoc (F : Lf) (f : Bool → Option Nat) (l : List Bool) (k : Bool) : retf F f (l ++ [k]) = upd (retf F f l) k (some (lf F k).1) := by
  funext j; unfold retf upd; by_cases h : j = k <;> simp [h]
theorem gv_names {w : World} {bg r size : Nat} {F : Lf} (h : Gv w bg r size F) : ∃ es clock, w.heap[r]? = some (.map es clock) ∧ (∀ x ∈ es.toList, x.born < clock) ∧ (es.toList.map (·.born)).Nodup ∧ (∀ x ∈ es.toList, x.key = .string (strKey x)) ∧
    (∀ xs : List ByteArray, xs.Perm (es.toList.map strKey) → srtS xs = namesOf F) ∧ es.size ≤ 1000 := by
  obtain ⟨_, L, ⟨⟨es, clock, hb, hl, hs1, hs2⟩, hk, hd⟩, hg⟩ := h
  have hkey : ∀ x ∈ es.toList, ∃ k y, F k = some y ∧ (x.key, x.val) = ent k y := fun x hx => hg.1 _ (by rw [← hl]; exact List.mem_map.2 ⟨x, hx, rfl⟩)
  have hstr : ∀ x ∈ es.toList, x.key = .string (strKey x) := fun x hx => by
    obtain ⟨k, y, _, he⟩ := hkey x hx
    have := congrArg Prod.fst he
    simp only [ent] at this
    unfold strKey; rw [this]
  have hnd : (es.toList.map strKey).Nodup := by
    have h1 : (L.map Prod.fst).Pairwise (· ≠ ·) := List.pairwise_map.2 hd
    rw [← hl, List.map_map, List.pairwise_map] at h1
    refine List.pairwise_map.2 (List.Pairwise.imp_of_mem ?_ h1)
    intro a b ha hb hne he
    apply hne
    show a.key = b.key
    rw [hstr a ha, hstr b hb, he]
  have h1 : ∀ s ∈ es.toList.map strKey, ∃ k, (F k).isSome ∧ s = nm k := fun s hs => by
    obtain ⟨x, hx, rfl⟩ := List.mem_map.1 hs
    obtain ⟨k, y, hk, he⟩ := hkey x hx
    have h2 := congrArg Prod.fst he
    simp only [ent] at h2
    rw [hstr x hx] at h2
    injection h2 with h2
    exact ⟨k, by rw [hk]; rfl, h2⟩
  have h2 : ∀ k, (F k).isSome → nm k ∈ es.toList.map strKey := fun k hk => by
    obtain ⟨y, hy⟩ := Option.isSome_iff_exists.1 hk
    have hm := hg.2 k y hy
    rw [← hl] at hm
    obtain ⟨x, hx, he⟩ := List.mem_map.1 hm
    have h3 := congrArg Prod.fst he
    simp only [ent] at h3
    rw [hstr x hx] at h3
    injection h3 with h3
    exact List.mem_map.2 ⟨x, hx, h3⟩
  refine ⟨es, clock, hb, hs1, hs2, hstr, fun xs hp => perm_names hnd h1 h2 hp, ?_⟩
  have hp := perm_names hnd h1 h2 (List.Perm.refl _)
  have hl1 := srtS_len (es.toList.map strKey)
  rw [hp, namesOf_eq] at hl1
  simp only [List.length_map, Array.length_toList] at hl1
  have := nB_len F
  rw [← hl1]; omega
end Go.Proofs.YtfadbmfkidiaoaaGreatDoor
