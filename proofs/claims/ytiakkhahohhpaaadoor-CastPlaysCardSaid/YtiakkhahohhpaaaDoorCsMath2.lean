/-
  The net that tells all of all, plain: all that is tried in order comes; what stands in what was got.
  Conditions: none beyond those of each lemma.
-/
import Derived.Test.YtiakkhahohhpaaaDoorCsB
namespace Go.Proofs.YtiakkhahohhpaaaDoor

theorem all_le : ∀ (m : Nat) (l : List Int), (∀ k : Nat, k < m → (k : Int) ∈ l) → m ≤ l.length
  | 0, _, _ => Nat.zero_le _
  | m + 1, l, h => by
    have hm := h m (by omega)
    have h1 := all_le m (l.erase (m : Int)) fun k hk => (List.mem_erase_of_ne (by omega)).2 (h k (by omega))
    rw [List.length_erase_of_mem hm] at h1
    have : 0 < l.length := List.length_pos_of_mem hm
    omega

/-- All notes below a are everywhere, and a is at the nodes below b. -/
def TriedTo (a b : Nat) (s : CNet) : Prop := ∀ k p, k < s.m → p < s.n → (k < a ∨ (k = a ∧ p < b)) → (k : Int) ∈ s.got p

theorem tried_start (s : CNet) : TriedTo 0 0 s := fun _ _ _ _ h => by omega
theorem tried_row {s : CNet} {a b : Nat} (h : TriedTo a b s) (hb : s.n ≤ b) : TriedTo (a + 1) 0 s := fun k p hk hp h2 => h k p hk hp (by omega)

theorem got_keep (s : CNet) (p k : Nat) (x : Int) (a : Nat) (h : x ∈ s.got a) : x ∈ (s.keep p k).got a := by
  by_cases e : a = p
  · subst e
    show x ∈ put1 s.got a _ a
    rw [put1_self]; exact List.mem_append_left _ h
  · show x ∈ put1 s.got p _ a
    rw [put1_ne _ _ e]; exact h

theorem got_take (s : CNet) (p k : Int) (x : Int) (a : Nat) (h : x ∈ s.got a) : x ∈ (s.take p k).got a := by
  unfold CNet.take
  split
  · exact got_keep _ _ _ _ _ h
  · exact h

theorem take_m (s : CNet) (p k : Int) : (s.take p k).m = s.m := by unfold CNet.take; split <;> rfl

theorem tried_next {s : CNet} (h : CInv s s.m) {a b : Nat} (ht : TriedTo a b s) (hb : b < s.n) : TriedTo a (b + 1) (s.take b a) := by
  intro k p hk hp hc
  rw [take_m] at hk
  have hpn : p < s.n := by
    have : (s.take (b : Int) (a : Int)).n = s.n := by unfold CNet.take; split <;> rfl
    rw [this] at hp; exact hp
  by_cases hin : (k : Int) ∈ s.got p
  · exact got_take _ _ _ _ _ hin
  · have hka : k = a ∧ p = b := by
      by_cases h1 : k < a ∨ (k = a ∧ p < b)
      · exact absurd (ht k p hk hpn h1) hin
      · omega
    obtain ⟨rfl, rfl⟩ := hka
    have hge : ∀ q, q < s.n → s.vec k q ≤ s.had p q := fun q hq => by
      by_cases hle : s.vec k q ≤ s.had p q
      · exact hle
      · obtain ⟨j, hj, hjb, hjo⟩ := h.exv k q hk hq (s.had p q) (h.had0 p q hpn hq) (by omega)
        have hm := (h.mem p j hpn (by omega)).1 (ht j p (by omega) hpn (.inl hj))
        rw [hjb, hjo] at hm
        omega
    have heq : s.had p (s.bys k) = s.vec k (s.bys k) := by
      have h1 := hge _ (h.byl k hk)
      have h2 : ¬ s.vec k (s.bys k) < s.had p (s.bys k) := fun hlt => hin ((h.mem p k hpn hk).2 hlt)
      omega
    have hfit : fitsL s p k s.n = true := (fitsL_iff s p k s.n).2 fun q hq => by
      unfold CNet.fits
      by_cases e : q = s.bys k
      · rw [if_pos e, e]; exact decide_eq_true heq
      · rw [if_neg e]; exact decide_eq_true (hge q hq)
    have hE : s.takeErr p k = 0 := by
      unfold CNet.takeErr
      rw [if_neg (by rw [(s.is_iff p).2 ⟨p, rfl, hpn⟩]; simp), if_neg (by rw [(s.isNote_iff k).2 ⟨k, rfl, hk⟩]; simp), Int.toNat_natCast, Int.toNat_natCast, if_neg (fun hh => hin (List.contains_iff_mem.1 hh)), if_neg (by rw [hfit]; simp)]
    unfold CNet.take
    rw [if_pos hE, Int.toNat_natCast, Int.toNat_natCast]
    show (k : Int) ∈ put1 s.got p _ p
    rw [put1_self]; simp

theorem CInv.gotAll {s : CNet} (h : CInv s s.m) {a : Nat} (ht : TriedTo a 0 s) (ha : s.m ≤ a) {p : Nat} (hp : p < s.n) : (s.got p).length = s.m := by
  have h1 := h.got_le hp
  have h2 := all_le s.m (s.got p) fun k hk => ht k p hk hp (.inl (by omega))
  omega

end Go.Proofs.YtiakkhahohhpaaaDoor
