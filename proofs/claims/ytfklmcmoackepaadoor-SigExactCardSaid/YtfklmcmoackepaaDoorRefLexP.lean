/- What the reference's lexer does round by round, on lists; its letter and digit. -/
import Derived.Test.YtfklmcmoackepaaDoorLexD
namespace Go.Proofs.YtfklmcmoackepaaDoor
open Go.RowKit

set_option maxHeartbeats 400000 in
theorem rletter_any (c : Nat) (w : World) :
    Calls Tryd.prog 33 #[.int .u8 c] w fun e w' => e = .returned (.bool (isLetter c)) ∧ w = w' := by
  go_enter Tryd.func33, Tryd.ntmps33
  go_wp2
  all_goals go_ret
  all_goals refine ⟨retBool ?_, rfl⟩
  all_goals rw [Bool.eq_iff_iff]
  all_goals simp [isLetter]
  all_goals omega
set_option maxHeartbeats 400000 in
theorem rdigit_any (c : Nat) (w : World) :
    Calls Tryd.prog 34 #[.int .u8 c] w fun e w' => e = .returned (.bool (isDigit c)) ∧ w = w' := by
  go_enter Tryd.func34, Tryd.ntmps34
  go_wp2
  all_goals go_ret
  all_goals refine ⟨retBool ?_, rfl⟩
  all_goals rw [Bool.eq_iff_iff]
  all_goals simp [isDigit]
  all_goals omega

/-- as lexS, inside a remark or not -/
def lexB (b : Bool) (f : Nat) (r : List UInt8) (pos : Nat) : List Tok × Option Nat := lexR f (skip b r) (pos + (r.length - (skip b r).length))

def RefSt (b : Bool) (s : ByteArray) (done : List Tok) (k : Nat) : Prop :=
  k ≤ s.size ∧ done.length ≤ k ∧ lexL s.data.toList = (done ++ (lexB b (s.size + 1) (s.data.toList.drop k) k).1, (lexB b (s.size + 1) (s.data.toList.drop k) k).2)

theorem RefSt.start (s : ByteArray) : RefSt false s [] 0 := by
  have hl : s.data.toList.length = s.size := by simp
  refine ⟨Nat.zero_le _, Nat.zero_le _, ?_⟩
  unfold lexL
  rw [hl]
  simp [lexB, lexS]
theorem RefSt.done {b : Bool} {s : ByteArray} {done : List Tok} (h : RefSt b s done s.size) : lexL s.data.toList = (done, none) := by
  have := h.2.2
  rw [drop_size] at this
  have e : lexB b (s.size + 1) [] s.size = ([], none) := by cases b <;> simp [lexB, skip, lexR_nil]
  rw [e] at this
  simpa using this
/-- one byte more that is passed over -/
theorem lexB_step {b b' : Bool} {f : Nat} {c : UInt8} {r : List UInt8} {k : Nat} (h : skip b (c :: r) = skip b' r) : lexB b f (c :: r) k = lexB b' f r (k + 1) := by
  have := skip_le b' r
  unfold lexB
  rw [h]
  congr 1
  simp
  omega
theorem RefSt.step {b b' : Bool} {s : ByteArray} {done : List Tok} {k : Nat} (h : RefSt b s done k) (hk : k < s.size) (hs : ∀ r, skip b (s[k] :: r) = skip b' r) : RefSt b' s done (k + 1) := by
  refine ⟨by omega, by have := h.2.1; omega, ?_⟩
  have := h.2.2
  rw [drop_cons s k hk, lexB_step (hs _)] at this
  exact this
theorem RefSt.blank {s : ByteArray} {done : List Tok} {k : Nat} (h : RefSt false s done k) (hk : k < s.size) (hc : s[k].toNat = 32 ∨ s[k].toNat = 9 ∨ s[k].toNat = 10) : RefSt false s done (k + 1) :=
  h.step hk fun r => by simp only [skip, hc, if_true]
theorem RefSt.note {s : ByteArray} {done : List Tok} {k : Nat} (h : RefSt true s done k) (hk : k < s.size) (hc : s[k].toNat ≠ 10) : RefSt true s done (k + 1) :=
  h.step hk fun r => by simp only [skip, hc, if_false]
theorem RefSt.turn {b b' : Bool} {s : ByteArray} {done : List Tok} {k : Nat} (h : RefSt b s done k) (hk : k < s.size) (hs : ∀ r, skip b (s[k] :: r) = skip b' (s[k] :: r)) : RefSt b' s done k := by
  refine ⟨h.1, h.2.1, ?_⟩
  have := h.2.2
  rw [drop_cons s k hk] at *
  unfold lexB at *
  rw [hs] at this
  exact this
theorem RefSt.begin {s : ByteArray} {done : List Tok} {k : Nat} (h : RefSt false s done k) (hk : k < s.size) (hc : s[k].toNat = 59) : RefSt true s done k :=
  h.turn hk fun r => by simp [skip, hc]
theorem RefSt.line {s : ByteArray} {done : List Tok} {k : Nat} (h : RefSt true s done k) (hk : k < s.size) (hc : s[k].toNat = 10) : RefSt false s done k :=
  h.turn hk fun r => by simp [skip, hc]
theorem RefSt.atEnd {s : ByteArray} {done : List Tok} (h : RefSt true s done s.size) : RefSt false s done s.size := by
  refine ⟨h.1, h.2.1, ?_⟩
  have := h.2.2
  rw [drop_size] at *
  exact this
/-- at a byte that is neither blank nor begins a remark: as LexSt -/
theorem RefSt.tok {s : ByteArray} {done : List Tok} {k : Nat} (h : RefSt false s done k) (hk : k < s.size) (h1 : ¬ (s[k].toNat = 32 ∨ s[k].toNat = 9 ∨ s[k].toNat = 10)) (h2 : s[k].toNat ≠ 59) : LexSt s done k := by
  refine ⟨h.1, h.2.1, ?_⟩
  have := h.2.2
  rw [drop_cons s k hk] at *
  have e : skip false (s[k] :: s.data.toList.drop (k + 1)) = s[k] :: s.data.toList.drop (k + 1) := by simp only [skip, h1, h2, if_false]
  unfold lexB at this
  rw [e] at this
  simpa using this
theorem RefSt.next {s : ByteArray} {done : List Tok} {k : Nat} (h : LexSt s done k) (hk : k < s.size) (ho : (oneL (s.data.toList.drop k)).2.2 = true) :
    RefSt false s (done ++ [⟨(oneL (s.data.toList.drop k)).1, (oneL (s.data.toList.drop k)).2.1, k⟩]) (k + (oneL (s.data.toList.drop k)).2.1.length) := by
  have hl : s.data.toList.length = s.size := by simp
  have hne : s.data.toList.drop k ≠ [] := by rw [drop_cons s k hk]; simp
  have h1 := oneL_le _ hne
  have h2 := oneL_len _ ho
  rw [List.length_drop, hl] at h1
  refine ⟨by omega, ?_, ?_⟩
  · have := h.2.1
    rw [List.length_append, List.length_singleton]
    omega
  · have := h.2.2
    rw [lexR_good hne (by simp; omega) ho, List.drop_drop] at this
    rw [this]
    simp [lexB, lexS]
end Go.Proofs.YtfklmcmoackepaaDoor
