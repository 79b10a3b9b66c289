/- Instructions, operands, bytes, as rows of cells. Conditions: none. -/
import Derived.Test.YtkafcijfljjlaaaDoorAmA9
import Derived.Test.YtkafcijfljjlaaaDoorAmW
set_option linter.unusedSimpArgs false
set_option linter.unusedVariables false
namespace Go.AM
open Go Go.Proofs
structure In where
  c : Int
  o : Int
  a : List Dev
def insC (i : In) : List AV := [.sc (.int .i64 i.c), .sc (.int .i64 i.o), .fz 3 (i.a.map devC)]
attribute [go_sem] insC
def dD : Dev := ⟨0, 0, 0⟩
def dI : In := ⟨0, 0, []⟩
theorem devs_get (l : List Dev) (i : Int) (h0 : 0 ≤ i) (h : i < l.length) : (l.map devC).getD i.toNat [] = [.sc (.int .i64 (l.getD i.toNat dD).k), .sc (.int .i64 (l.getD i.toNat dD).n), .sc (.int .i64 (l.getD i.toNat dD).p)] := by
  have hn : i.toNat < l.length := by omega
  simp [List.getD, hn, devC]
theorem ins_get (l : List In) (i : Int) (h0 : 0 ≤ i) (h : i < l.length) : (l.map insC).getD i.toNat [] = [.sc (.int .i64 (l.getD i.toNat dI).c), .sc (.int .i64 (l.getD i.toNat dI).o), .fz 3 ((l.getD i.toNat dI).a.map devC)] := by
  have hn : i.toNat < l.length := by omega
  simp [List.getD, hn, insC]
theorem devs_at (l : List Dev) (n : Nat) (h : n < l.length) : (l.map devC).getD n [] = [.sc (.int .i64 (l.getD n dD).k), .sc (.int .i64 (l.getD n dD).n), .sc (.int .i64 (l.getD n dD).p)] := by
  simp [List.getD, h, devC]
theorem ins_at (l : List In) (n : Nat) (h : n < l.length) : (l.map insC).getD n [] = [.sc (.int .i64 (l.getD n dI).c), .sc (.int .i64 (l.getD n dI).o), .fz 3 ((l.getD n dI).a.map devC)] := by
  simp [List.getD, h, insC]
def okIn (N : Nat) (i : In) : Prop := (∀ d ∈ i.a, okD d) ∧ i.a.length ≤ N ∧ i.a.length ≤ 10 ∧ -8589934592 ≤ i.c ∧ i.c ≤ 8589934592 ∧ -8589934592 ≤ i.o ∧ i.o ≤ 8589934592
theorem args_of {L : List (List AV)} (h : ∀ r ∈ L, okRow r) : ∃ l : List Dev, L = l.map devC ∧ ∀ d ∈ l, okD d := by
  induction L with
  | nil => exact ⟨[], rfl, by simp⟩
  | cons r L ih =>
    obtain ⟨l, rfl, hl⟩ := ih fun q hq => h q (by simp [hq])
    obtain ⟨d, rfl, hd⟩ := h r (by simp)
    exact ⟨d :: l, rfl, by intro q hq; rcases List.mem_cons.1 hq with rfl | hq; exact hd; exact hl q hq⟩
theorem rows_of {N : Nat} {X : List (List AV)} (h : okRows N X) : ∃ l : List In, X = l.map insC ∧ ∀ i ∈ l, okIn N i := by
  induction X with
  | nil => exact ⟨[], rfl, by simp⟩
  | cons r L ih =>
    obtain ⟨l, rfl, hl⟩ := ih fun q hq => h q (by simp [hq])
    obtain ⟨c, o, A, rfl, ⟨hA1, hA⟩, hN, h1, h2, h3, h4⟩ := h r (by simp)
    obtain ⟨a, rfl, ha⟩ := args_of hA
    exact ⟨⟨c, o, a⟩ :: l, rfl, by intro q hq; rcases List.mem_cons.1 hq with rfl | hq; exact ⟨ha, by simpa using hN, by simpa using hA1, h1, h2, h3, h4⟩; exact hl q hq⟩
theorem okD_getD {l : List Dev} (h : ∀ d ∈ l, okD d) (n : Nat) : okD (l.getD n dD) := by
  by_cases hn : n < l.length
  · have e : l.getD n dD = l[n] := by simp [List.getD, hn]
    rw [e]; exact h _ (List.getElem_mem hn)
  · have e : l.getD n dD = dD := by simp [List.getD, hn]
    rw [e]; simp [okD, dD]
theorem okIn_getD {l : List In} {N : Nat} (h : ∀ d ∈ l, okIn N d) (n : Nat) : okIn N (l.getD n dI) := by
  by_cases hn : n < l.length
  · have e : l.getD n dI = l[n] := by simp [List.getD, hn]
    rw [e]; exact h _ (List.getElem_mem hn)
  · have e : l.getD n dI = dI := by simp [List.getD, hn]
    rw [e]; simp [okIn, dI]
def b8 (n : Int) : UInt8 := UInt8.ofNat (n % 256).toNat
theorem b8_eq (n : Int) : ((b8 n).toNat : Int) = n % 256 := by
  have : (n % 256).toNat < 256 := by omega
  simp only [b8, UInt8.toNat_ofNat']
  omega
theorem wrap_b8 (n : Int) : IntKind.u8.wrap n = ((b8 n).toNat : Int) := by rw [b8_eq, IntKind.wrap_u8]
theorem byte_at (bs : List UInt8) (i : Int) (h0 : 0 ≤ i) (h : i < bs.length) : (bytes bs).getD i.toNat [] = [.sc (.int .u8 ((bs.getD i.toNat 0).toNat : Int))] := by
  have hn : i.toNat < bs.length := by omega
  simp [bytes, List.getD, hn]
theorem drop_at {α : Type} (l : List α) (d : α) {i : Int} (h0 : 0 ≤ i) (h : i < l.length) : l.drop i.toNat = l.getD i.toNat d :: l.drop (i + 1).toNat := by
  have hn : i.toNat < l.length := by omega
  have e : (i + 1).toNat = i.toNat + 1 := by omega
  rw [e, List.drop_eq_getElem_cons hn]
  simp [List.getD, hn]
theorem flat_more {α β : Type} (l : List α) (d : α) (f : α → List β) {k : Int} (h0 : 0 ≤ k) (h1 : k < l.length) : (l.take (k + 1).toNat).flatMap f = (l.take k.toNat).flatMap f ++ f (l.getD k.toNat d) := by
  have hn : k.toNat < l.length := by omega
  have e : l.getD k.toNat d = l[k.toNat] := by simp [List.getD, hn]
  rw [e, show (k + 1).toNat = k.toNat + 1 by omega, List.take_succ_eq_append_getElem hn, List.flatMap_append]
  simp
theorem flat_end {α β : Type} (l : List α) (f : α → List β) {k : Int} (h1 : l.length ≤ k) : (l.take k.toNat).flatMap f = l.flatMap f := by
  rw [List.take_of_length_le (by omega)]
theorem all_no {α : Type} (l : List α) (d : α) {p : α → Bool} {k : Int} (h0 : 0 ≤ k) (h1 : k < l.length) (h : p (l.getD k.toNat d) = false) : l.all p = false := by
  have hn : k.toNat < l.length := by omega
  have e : l.getD k.toNat d = l[k.toNat] := by simp [List.getD, hn]
  rw [e] at h
  rw [List.all_eq_false]
  exact ⟨_, List.getElem_mem hn, by simp [h]⟩
theorem all_more {α : Type} (l : List α) (d : α) {p : α → Bool} {k : Int} (h0 : 0 ≤ k) (h1 : k < l.length) (h : p (l.getD k.toNat d) = true) (h2 : (l.take k.toNat).all p = true) : (l.take (k + 1).toNat).all p = true := by
  have hn : k.toNat < l.length := by omega
  have e : l.getD k.toNat d = l[k.toNat] := by simp [List.getD, hn]
  rw [e] at h
  rw [show (k + 1).toNat = k.toNat + 1 by omega, List.take_succ_eq_append_getElem hn, List.all_append, h2]
  simp [h]
theorem all_end {α : Type} (l : List α) {p : α → Bool} {k : Int} (h1 : l.length ≤ k) (h2 : (l.take k.toNat).all p = true) : l.all p = true := by
  rwa [List.take_of_length_le (by omega)] at h2
theorem bytes_app (a b : List UInt8) : bytes a ++ bytes b = bytes (a ++ b) := by simp [bytes]
theorem bytes_one (b : UInt8) : [[AV.sc (.int .u8 (b.toNat : Int))]] = bytes [b] := rfl
theorem bytes_set (bs : List UInt8) (i : Nat) (b : UInt8) : (bytes bs).set i [.sc (.int .u8 (b.toNat : Int))] = bytes (bs.set i b) := by simp [bytes, List.map_set]
theorem bytes_rep (n : Nat) : List.replicate n [AV.sc (.int .u8 0)] = bytes (List.replicate n 0) := by simp [bytes]
theorem bytes_eta (bs : List UInt8) : (bytes bs).take bs.length = bytes bs := by rw [← bytes_len bs, List.take_length]
theorem u8s_bytes {zs : List Int} (h : ∀ n ∈ zs, 0 ≤ n ∧ n < 256) : u8s zs = bytes (zs.map b8) := by
  induction zs with
  | nil => rfl
  | cons z zs ih =>
    have h1 := h z (by simp)
    have h2 := ih fun n hn => h n (by simp [hn])
    have e : ((b8 z).toNat : Int) = z := by rw [b8_eq]; omega
    simp only [u8s, bytes, List.map_cons, List.map_map] at *
    rw [h2, e]
end Go.AM
