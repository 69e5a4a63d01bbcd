/- Walks of transhiplaw09.wakes, great, ReadSymbols. -/
import Derived.Test.YtfklmcmoackepaaDoorSy
import Derived.Test.YtfklmcmoackepaaDoorLaw10b
namespace Go.Proofs.YtfklmcmoackepaaDoor
open Go.RowKit

section
variable (s : ByteArray) {nv : Value} {nm : List (List UInt8)} (i j : Nat) (w : World)
theorem read_ok {k ti tj tn : Int} {ks : List TT} {q : Nat} (ht : Tab w) (hs : s.size ≤ 1099511627776) (hN : Has w 1 nv nm.length (textRow nm)) (hnl : nm.length ≤ 1099511627776) (hij : i ≤ 1000 ∧ j ≤ 1000) (hr : readM s.data.toList nm i j = .ok (.node k ti tj tn ks) q) :
    Calls Tryd.prog 18 #[.string s, nv, .int .i64 i, .int .i64 j] w fun e w' => ∃ a c, e = .returned (.tuple #[termV k ti tj tn (.slice a ks.length c), .int .i64 0, .int .i64 0]) ∧ RepT w' ks (.slice a ks.length c) ∧ In4 k ti tj tn ∧ Below w.heap.size w w' := by
  refine (read_any s i j w ht hs hN hnl hij).mono fun e w' h => ?_
  rw [hr] at h
  obtain ⟨a, l, c, he, hrep, h4, hb⟩ := h
  obtain ⟨_, a', c', hv⟩ := hrep.form
  injection hv with h1 h2 h3
  subst h1 h2 h3
  exact ⟨_, _, he, hrep, h4, hb⟩
theorem read_bad {q p : Nat} (ht : Tab w) (hs : s.size ≤ 1099511627776) (hN : Has w 1 nv nm.length (textRow nm)) (hnl : nm.length ≤ 1099511627776) (hij : i ≤ 1000 ∧ j ≤ 1000) (hr : readM s.data.toList nm i j = .bad q) (hp : placeM s.data.toList q = p) :
    Calls Tryd.prog 18 #[.string s, nv, .int .i64 i, .int .i64 j] w fun e w' => e = .returned (.tuple #[termV 0 0 0 0 (.slice none 0 0), .int .i64 2, .int .i64 p]) ∧ Below w.heap.size w w' := by
  refine (read_any s i j w ht hs hN hnl hij).mono fun e w' h => ?_
  rw [hr] at h
  obtain ⟨he, hb⟩ := h
  rw [hp] at he
  exact ⟨he, hb⟩
end

theorem smpA : readM (ByteArray.mk #[40, 76, 97, 109, 32, 120, 32, 40, 115, 111, 114, 116, 32, 105, 41, 32, 120, 41]).data.toList [] 4 0 = .ok (.node 14 0 0 0 [.node 1 4 0 0 [], .node 2 0 0 0 []]) 9 := by kernel_rfl
theorem smpB : readM (ByteArray.mk #[40, 76, 97, 109, 32, 120, 32, 40, 115, 111, 114, 116, 32, 48, 41, 32, 121, 41]).data.toList [] 0 0 = .bad 7 := by kernel_rfl
theorem smpC : placeM (ByteArray.mk #[40, 76, 97, 109, 32, 120, 32, 40, 115, 111, 114, 116, 32, 48, 41, 32, 121, 41]).data.toList 7 = 16 := by kernel_rfl
theorem smpD : symI (ByteArray.mk #[99, 114, 101, 102, 108]).data.toList = 21 := by decide +kernel
theorem smpE : symK 1 = [117, 105, 112] := by decide +kernel
theorem symbol_is (s : ByteArray) (w : World) (n : Int) (h : (symI s.data.toList : Int) = n) : Calls Tryd.prog 60 #[.string s] w fun e w' => e = .returned (.int .i64 n) ∧ Below w.heap.size w w' := by
  rw [← h]; exact symbol_any s w
theorem rname_is (n : Int) (w : World) (L : List UInt8) (h0 : In64 n) (h : symK n = L) : Calls Tryd.prog 13 #[.int .i64 n] w fun e w' => e = .returned (.string ⟨L.toArray⟩) ∧ Below w.heap.size w w' := by
  rw [← h]; exact readName_any n w h0

/-- the two kids of a sample -/
theorem two_open {w : World} {k i j n k' i' j' n' : Int} {l l' : List TT} {a : Option Addr} {c : Nat} (h : RepT w [.node k i j n l, .node k' i' j' n' l'] (.slice a 2 c)) :
    ∃ b o, a = some ⟨b, o, none⟩ ∧ b < w.heap.size ∧ w.cell? ⟨b, o + 1, none⟩ = some (.int .i64 i) ∧ w.cell? ⟨b, o + 5 + 1, none⟩ = some (.int .i64 i') := by
  cases h with
  | row b o c ks kv hn hb hc hk =>
    have h0 := hc 0 k i j n l rfl
    have h1 := hc 1 k' i' j' n' l' rfl
    exact ⟨b, o, rfl, hb, by simpa using h0.2.1, by simpa using h1.2.1⟩


theorem symK_none {n : Int} : symK n = [] ↔ (n < 1 ∨ 21 < n) := by
  constructor
  · intro h
    refine Classical.byContradiction fun hc => ?_
    have h1 : 1 ≤ n ∧ n ≤ 21 := by omega
    have : ∀ m : Nat, m < 21 → symWords.getD m [] ≠ [] := by decide +kernel
    rw [symK, if_neg hc] at h
    exact this _ (by omega) h
  · intro h; rw [symK, if_pos h]
theorem symI_symK {n : Int} (h : 1 ≤ n ∧ n ≤ 21) : (symI (symK n) : Int) = n := by
  have : ∀ m : Nat, m < 21 → symI (symWords.getD m []) = m + 1 := by decide +kernel
  have h1 : ¬ (n < 1 ∨ 21 < n) := by omega
  rw [symK, if_neg h1, this _ (by omega)]
  omega
end Go.Proofs.YtfklmcmoackepaaDoor
