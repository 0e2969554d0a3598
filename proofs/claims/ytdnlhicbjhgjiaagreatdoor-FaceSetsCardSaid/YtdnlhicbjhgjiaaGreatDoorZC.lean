/- Lists of texts: unions. No condition. -/
import Derived.Test.YtdnlhicbjhgjiaaGreatDoorZB
import Derived.Test.YtdnlhicbjhgjiaaGreatDoorVxS
import Derived.Test.YtdnlhicbjhgjiaaGreatDoorZShelf
namespace Go.Proofs.YtdnlhicbjhgjiaaGreatDoor
open Go Go.Vx Go.RowKit
set_option maxRecDepth 100000

variable {S : BS} {K : Value → Heap → Prop} {X : List PanicEntry → Heap → Prop} {h : Heap}

theorem runion_spec {a b : Option Addr} {n m c d : Nat} {xs ys : List ByteArray} (hl : Sl eStr (Al h) h (.slice a n c) xs) (hq : Sl eStr (Al h) h (.slice b m d) ys) (hn : xs.length ≤ 100000000) (hm : ys.length ≤ 100000000)
    (hK : ∀ a n c h', Ext (Al h) h h' → Own eStr (Al h) h' (.slice a n c) (rise (xs ++ ys)) → K (.slice a n c) h') : CallK Tryz.prog 9 [.slice a n c, .slice b m d] h K X := by
  obtain ⟨_, _, hf, _⟩ := hl.form; cases hf
  obtain ⟨_, _, hf, _⟩ := hq.form; cases hf
  have hlen : ∀ zs : List ByteArray, (zs.foldl ins []).length ≤ zs.length := fun zs => rise_len zs
  refine callK_of_vc fc9 mixed Tryz.func9 ok9 (Nat.le_of_ble_eq_true rfl) ?_
  refine kmp (B := VSem Tryz.prog fc9 (cd Tryz.f9 8) [(0, Value.slice a (List.length xs) c), (1, Value.slice b (List.length ys) d), (4, Value.slice none 0 0), (5, Value.slice none 0 0), (6, Value.int IntKind.i64 0)] h (vcBlock 0 (vcThen (fun (r : Regs) (h : Heap) => vcCode Tryz.prog fc9 (cd Tryz.f9 19) r h (vcPost Tryz.prog (Array.toList (Func.results Tryz.f9)) K X)) (vcPost Tryz.prog (Array.toList (Func.results Tryz.f9)) K X)))) (by kernel_rfl) ?_ -- ENTERED
  refine loop_sem mixed (α := Option Addr × Nat × Nat × Nat) (fun x => [(0, .slice a xs.length c), (1, .slice b ys.length d), (5, .slice x.1 x.2.1 x.2.2.1), (6, .int .i64 x.2.2.2)])
    (fun x h' => x.2.2.2 ≤ xs.length ∧ Grown eStr (Al h) h (.slice none 0 0) h' (.slice x.1 x.2.1 x.2.2.1) ((xs.take x.2.2.2).foldl ins []))
    (fun x _ => xs.length - x.2.2.2) (none, 0, 0, 0) (by kernel_rfl) ⟨rfl, rfl, rfl, rfl, trivial⟩ ⟨Nat.zero_le _, Grown.rfl Own.nil⟩ ?_
  rintro ⟨la, ln, lc, i⟩ h' ⟨hi, hg⟩
  simp only at hi hg
  have hext := hg.ext (Al h) (fun _ h => h) (fun _ h => by cases h)
  refine Wrap.mk ?_; refine kmp (B := iteB (decide ((↑i : Int) < (↑(List.length xs) : Int))) (∃ (b_1 : Nat), ∃ (o : Nat), ∃ (j : Nat), a = some (Addr.mk b_1 o none) ∧ (↑i : Int) = (↑j : Int) ∧ j < List.length xs ∧ ∃ (x : ByteArray), cellAt h' b_1 (o + j) = some (Value.string x) ∧ CallK Tryz.prog 23 [Value.slice la ln lc, Value.string x] h' (fun (v : Value) (h_1 : Heap) => ∃ (a_1 : Option Addr), ∃ (n : Nat), ∃ (c_1 : Nat), v = Value.slice a_1 n c_1 ∧ ∃ (n_1 : Int), Wr IntKind.i64 ((↑i : Int) + 1) n_1 ∧ ∃ (x' : Option Addr × Nat × Nat × Nat), (Value.slice a (List.length xs) c = Value.slice a (List.length xs) c ∧ Value.slice b (List.length ys) d = Value.slice b (List.length ys) d ∧ Value.slice a_1 n c_1 = Value.slice (Prod.fst x') (Prod.fst (Prod.snd x')) (Prod.fst (Prod.snd (Prod.snd x'))) ∧ Value.int IntKind.i64 n_1 = Value.int IntKind.i64 (↑(Prod.snd (Prod.snd (Prod.snd x'))) : Int) ∧ True) ∧ (Prod.snd (Prod.snd (Prod.snd x')) ≤ List.length xs ∧ Vx.Grown eStr (Al h) h (Value.slice none 0 0) h_1 (Value.slice (Prod.fst x') (Prod.fst (Prod.snd x')) (Prod.fst (Prod.snd (Prod.snd x')))) (List.foldl ins [] (List.take (Prod.snd (Prod.snd (Prod.snd x'))) xs))) ∧ List.length xs - Prod.snd (Prod.snd (Prod.snd x')) < List.length xs - i) fun (ch : List PanicEntry) (h : Heap) => X ch h) (VSem Tryz.prog fc9 (cd Tryz.f9 23) [(0, Value.slice a (List.length xs) c), (1, Value.slice b (List.length ys) d), (5, Value.slice la ln lc), (6, Value.int IntKind.i64 (↑i : Int)), (7, Value.int IntKind.i64 0), (11, Value.bool (decide ((↑i : Int) < (↑(List.length xs) : Int))))] h' (vcBlock 2 (vcThen (fun (r : Regs) (h : Heap) => vcCode Tryz.prog fc9 (cd Tryz.f9 34) r h (vcPost Tryz.prog (Array.toList (Func.results Tryz.f9)) K X)) (vcPost Tryz.prog (Array.toList (Func.results Tryz.f9)) K X))))) (by kernel_rfl) ?_
  refine iteB_in (fun hlt => ?_) (fun hge => ?_)
  · have hlt : i < xs.length := by simpa using hlt
    obtain ⟨b1, o1, rfl, _, hcell⟩ := (hl.ext hext).atS hlt
    refine ⟨b1, o1, i, rfl, rfl, hlt, _, hcell, insert_spec hg.own (fun b hb => Nat.lt_of_lt_of_le hb hext.size) (by have := hlen (xs.take i); simp at this; omega) fun a' n' c' h2 hg2 => ?_⟩
    refine ⟨a', n', c', rfl, _, wrI (by omega) (by omega), (a', n', c', i + 1), ⟨rfl, rfl, rfl, rfl, trivial⟩, ⟨hlt, ?_⟩, by simp only; omega⟩
    have := hg.trans hg2
    simp only [List.take_succ_eq_append_getElem hlt, List.foldl_append]
    exact this
  · have hge : i = xs.length := by simp at hge; omega
    subst hge
    rw [List.take_length] at hg
    refine loop_sem mixed (α := Option Addr × Nat × Nat × Nat) (fun x => [(0, .slice a xs.length c), (1, .slice b ys.length d), (5, .slice x.1 x.2.1 x.2.2.1), (7, .int .i64 x.2.2.2)])
      (fun x h' => x.2.2.2 ≤ ys.length ∧ Grown eStr (Al h) h (.slice none 0 0) h' (.slice x.1 x.2.1 x.2.2.1) ((ys.take x.2.2.2).foldl ins (xs.foldl ins [])))
      (fun x _ => ys.length - x.2.2.2) (la, ln, lc, 0) (by kernel_rfl) ⟨rfl, rfl, rfl, rfl, trivial⟩ ⟨Nat.zero_le _, hg⟩ ?_
    clear hext hg
    rintro ⟨la, ln, lc, i⟩ h' ⟨hi, hg⟩
    simp only at hi hg
    have hext := hg.ext (Al h) (fun _ h => h) (fun _ h => by cases h)
    refine Wrap.mk ?_; refine kmp (B := iteB (decide ((↑i : Int) < (↑(List.length ys) : Int))) (∃ (b_1 : Nat), ∃ (o : Nat), ∃ (j : Nat), b = some (Addr.mk b_1 o none) ∧ (↑i : Int) = (↑j : Int) ∧ j < List.length ys ∧ ∃ (x : ByteArray), cellAt h' b_1 (o + j) = some (Value.string x) ∧ CallK Tryz.prog 23 [Value.slice la ln lc, Value.string x] h' (fun (v : Value) (h_1 : Heap) => ∃ (a_1 : Option Addr), ∃ (n : Nat), ∃ (c_1 : Nat), v = Value.slice a_1 n c_1 ∧ ∃ (n_1 : Int), Wr IntKind.i64 ((↑i : Int) + 1) n_1 ∧ ∃ (x' : Option Addr × Nat × Nat × Nat), (Value.slice a (List.length xs) c = Value.slice a (List.length xs) c ∧ Value.slice b (List.length ys) d = Value.slice b (List.length ys) d ∧ Value.slice a_1 n c_1 = Value.slice (Prod.fst x') (Prod.fst (Prod.snd x')) (Prod.fst (Prod.snd (Prod.snd x'))) ∧ Value.int IntKind.i64 n_1 = Value.int IntKind.i64 (↑(Prod.snd (Prod.snd (Prod.snd x'))) : Int) ∧ True) ∧ (Prod.snd (Prod.snd (Prod.snd x')) ≤ List.length ys ∧ Vx.Grown eStr (Al h) h (Value.slice none 0 0) h_1 (Value.slice (Prod.fst x') (Prod.fst (Prod.snd x')) (Prod.fst (Prod.snd (Prod.snd x')))) (List.foldl ins (List.foldl ins [] xs) (List.take (Prod.snd (Prod.snd (Prod.snd x'))) ys))) ∧ List.length ys - Prod.snd (Prod.snd (Prod.snd x')) < List.length ys - i) fun (ch : List PanicEntry) (h : Heap) => X ch h) (K (Value.slice la ln lc) h')) (by kernel_rfl) ?_
    refine iteB_in (fun hlt => ?_) (fun hge => ?_)
    · have hlt : i < ys.length := by simpa using hlt
      obtain ⟨b1, o1, rfl, _, hcell⟩ := (hq.ext hext).atS hlt
      refine ⟨b1, o1, i, rfl, rfl, hlt, _, hcell, insert_spec hg.own (fun b hb => Nat.lt_of_lt_of_le hb hext.size) (by have := hlen (xs ++ ys.take i); simp at this; omega) fun a' n' c' h2 hg2 => ?_⟩
      refine ⟨a', n', c', rfl, _, wrI (by omega) (by omega), (a', n', c', i + 1), ⟨rfl, rfl, rfl, rfl, trivial⟩, ⟨hlt, ?_⟩, by simp only; omega⟩
      have := hg.trans hg2
      simp only [List.take_succ_eq_append_getElem hlt, List.foldl_append]
      exact this
    · have hge : i = ys.length := by simp at hge; omega
      subst hge
      rw [List.take_length] at hg
      refine hK _ _ _ _ hext ?_
      rw [rise, List.foldl_append]
      exact hg.own

theorem grow_spec {n : Nat} (hn : n ≤ 100000000)
    (hK : ∀ a c h', Ext (Al h) h h' → Own eStr (Al h) h' (.slice a 0 c) [] → K (.slice a 0 c) h') : CallK Tryz.prog 48 [.slice none 0 0, .int .i64 n] h K X := by
  refine callK_of_vc fc48 mixed Tryz.func48 ok48 (Nat.le_of_ble_eq_true rfl) ?_
  refine kmp (B := ∃ (n_1 : Int), Wr IntKind.i64 0 n_1 ∧ ∃ (n_2 : Int), Wr IntKind.i64 ((↑n : Int) - n_1) n_2 ∧ iteB (decide (n_2 > 0)) (∃ (l : Nat), ∃ (h' : Nat), ∃ (m : Nat), l = 0 ∧ 0 = (↑h' : Int) ∧ m = 0 ∧ l ≤ h' ∧ h' ≤ m ∧ m ≤ 0 ∧ spotless none ∧ ∀ (a' : Option Addr), SubA none 1 l m a' → AppZ 9 1 16 [Value.string (ByteArray.mk #[])] (Value.slice a' (h' - l) (m - l)) n_2 h fun (a : Option Addr) (n c : Nat) (h : Heap) => ∃ (l : Nat), ∃ (h' : Nat), ∃ (m : Nat), l = 0 ∧ 0 = (↑h' : Int) ∧ m = c ∧ l ≤ h' ∧ h' ≤ m ∧ m ≤ c ∧ spotless a ∧ ∀ (a' : Option Addr), SubA a 1 l m a' → K (Value.slice a' (h' - l) (m - l)) h) (K (Value.slice none 0 0) h)) (by kernel_rfl) ?_ -- ENTERED
  refine ⟨0, wrI' (by omega) (by omega) (by omega), n, wrI' (by omega) (by omega) (by omega), iteB_in (fun h0 => ?_) (fun _ => hK _ _ _ Ext.rfl Own.nil)⟩
  have h0 : 0 < n := by simpa using h0
  refine ⟨0, 0, 0, rfl, rfl, rfl, by omega, by omega, by omega, trivial, ?_⟩
  intro a' ha'
  have := ha'.nil rfl
  subst this
  refine ⟨⟨none, 0, 0, n, rfl, rfl, by omega, ?_, fun hle => by omega, fun _ => ⟨[], ⟨by simp, by simp⟩, fun cap hcap => ?_⟩⟩⟩
  · intro v hv; simp at hv; subst hv; rfl
  · refine ⟨0, 0, cap, rfl, rfl, rfl, by omega, by omega, by omega, rfl, ?_⟩
    intro a' ha'
    obtain ⟨o', rfl, h1, h2⟩ := ha'.at_ h.size 0 rfl
    have ho : o' = 0 := by
      by_cases hc : cap = 0
      · exact h1 hc
      · rw [h2 hc]; simp [mulE]
    subst ho
    refine hK _ _ _ Ext.pushA ?_
    refine Own.mkS (xs := []) (fun hh => Nat.lt_irrefl _ hh) (Nat.zero_le _) (zs := zerosOf [Value.string ByteArray.empty] n ++ zerosOf [Value.string ByteArray.empty] (cap - (0 + n))) Blk.push ?_
    simp only [List.length_append, zerosOf_len, List.length_singleton, List.length_nil]; omega

/-- Two slices in a row. -/
theorem concat_spec {h0 : Heap} {b0 : Nat} {a b : Option Addr} {n m c d : Nat} {xs ys : List ByteArray} (hl : Sl eStr (Al h0) h (.slice a n c) xs) (hq : Sl eStr (Al h0) h (.slice b m d) ys) (hn : xs.length ≤ 10000000) (hm : ys.length ≤ 10000000)
    (hs : h0.size ≤ h.size) (hb0 : Blk h b0 [.slice a n c, .slice b m d]) 
    (hK : ∀ a n c h', Ext (Al h) h h' → Own eStr (Al h) h' (.slice a n c) (xs ++ ys) → K (.slice a n c) h') : CallK Tryz.prog 21 [.slice (some ⟨b0, 0, none⟩) 2 2] h K X := by
  obtain ⟨_, _, hf, _⟩ := hl.form; cases hf
  obtain ⟨_, _, hf, _⟩ := hq.form; cases hf
  have hsub : ∀ b, Al h0 b → Al h b := fun b hb => Nat.lt_of_lt_of_le hb hs
  have h0l := hb0.lt
  refine callK_of_vc fc21 mixed Tryz.func21 ok21 (Nat.le_of_ble_eq_true rfl) ?_
  refine kmp (B := VSem Tryz.prog fc21 (cd Tryz.f21 8) [(0, Value.slice (some (Addr.mk b0 0 none)) 2 2), (2, Value.slice none 0 0), (3, Value.int IntKind.i64 0), (9, Value.slice (some (Addr.mk b0 0 none)) 2 2), (10, Value.int IntKind.i64 2), (11, Value.int IntKind.i64 0)] h (vcBlock 0 (vcThen (fun (r : Regs) (h : Heap) => vcCode Tryz.prog fc21 (cd Tryz.f21 27) r h (vcPost Tryz.prog (Array.toList (Func.results Tryz.f21)) K X)) (vcPost Tryz.prog (Array.toList (Func.results Tryz.f21)) K X)))) (by kernel_rfl) ?_ -- ENTERED
  refine loop_unr mixed (by kernel_rfl) 3 ?_
  refine Wrap.mk ?_; refine kmp (B := ∃ (b : Nat), ∃ (o : Nat), ∃ (j : Nat), some (Addr.mk b0 0 none) = some (Addr.mk b o none) ∧ 0 = (↑j : Int) ∧ j < 2 ∧ ∃ (a : Option Addr), ∃ (n : Nat), ∃ (c : Nat), cellAt h b (o + j) = some (Value.slice a n c) ∧ ∃ (n_1 : Int), Wr IntKind.i64 (0 + (↑n : Int)) n_1 ∧ iteB (decide (n_1 < 0)) (X [PanicEntry.mk (Value.iface 9 (Value.string (ByteArray.mk #[108, 101, 110, 32, 111, 117, 116, 32, 111, 102, 32, 114, 97, 110, 103, 101]))) false false] h) (∃ (n_2 : Int), Wr IntKind.i64 1 n_2 ∧ unr Tryz.prog fc21 (cd Tryz.f21 9) (vcBlock 0 (vcThen (fun (r : Regs) (h : Heap) => vcCode Tryz.prog fc21 (cd Tryz.f21 27) r h (vcPost Tryz.prog (Array.toList (Func.results Tryz.f21)) K X)) (vcPost Tryz.prog (Array.toList (Func.results Tryz.f21)) K X))) 2 [(0, Value.slice (some (Addr.mk b0 0 none)) 2 2), (2, Value.slice none 0 0), (3, Value.int IntKind.i64 n_1), (5, Value.slice a n c), (9, Value.slice (some (Addr.mk b0 0 none)) 2 2), (10, Value.int IntKind.i64 2), (11, Value.int IntKind.i64 n_2), (12, Value.bool true), (20, Value.bool (decide (n_1 < 0)))] h)) (by kernel_rfl) ?_
  refine ⟨b0, 0, 0, rfl, rfl, by omega, a, xs.length, c, by rw [hb0.cell]; rfl, _, wrI' (y := (xs.length : Int)) (by omega) (by omega) (by omega), iteB_in (fun hh => by simp at hh; omega) (fun _ => ?_)⟩
  refine ⟨1, wrI' (by omega) (by omega) (by omega), ?_⟩
  refine Wrap.mk ?_; refine kmp (B := ∃ (b : Nat), ∃ (o : Nat), ∃ (j : Nat), some (Addr.mk b0 0 none) = some (Addr.mk b o none) ∧ 1 = (↑j : Int) ∧ j < 2 ∧ ∃ (a : Option Addr), ∃ (n : Nat), ∃ (c : Nat), cellAt h b (o + j) = some (Value.slice a n c) ∧ ∃ (n_1 : Int), Wr IntKind.i64 ((↑(List.length xs) : Int) + (↑n : Int)) n_1 ∧ iteB (decide (n_1 < 0)) (X [PanicEntry.mk (Value.iface 9 (Value.string (ByteArray.mk #[108, 101, 110, 32, 111, 117, 116, 32, 111, 102, 32, 114, 97, 110, 103, 101]))) false false] h) (∃ (n_2 : Int), Wr IntKind.i64 2 n_2 ∧ unr Tryz.prog fc21 (cd Tryz.f21 9) (vcBlock 0 (vcThen (fun (r : Regs) (h : Heap) => vcCode Tryz.prog fc21 (cd Tryz.f21 27) r h (vcPost Tryz.prog (Array.toList (Func.results Tryz.f21)) K X)) (vcPost Tryz.prog (Array.toList (Func.results Tryz.f21)) K X))) 1 [(0, Value.slice (some (Addr.mk b0 0 none)) 2 2), (2, Value.slice none 0 0), (3, Value.int IntKind.i64 n_1), (5, Value.slice a n c), (9, Value.slice (some (Addr.mk b0 0 none)) 2 2), (10, Value.int IntKind.i64 2), (11, Value.int IntKind.i64 n_2), (12, Value.bool true), (20, Value.bool (decide (n_1 < 0)))] h)) (by kernel_rfl) ?_
  refine ⟨b0, 0, 1, rfl, rfl, by omega, b, ys.length, d, by rw [hb0.cell]; rfl, _, wrI' (y := ((xs.length + ys.length : Nat) : Int)) (by omega) (by omega) (by omega), iteB_in (fun hh => by simp at hh; omega) (fun _ => ?_)⟩
  refine ⟨2, wrI' (by omega) (by omega) (by omega), ?_⟩
  refine Wrap.mk ?_; refine kmp (B := CallK Tryz.prog 48 [Value.slice none 0 0, Value.int IntKind.i64 (↑(List.length xs + List.length ys) : Int)] h (fun (v : Value) (h : Heap) => ∃ (a : Option Addr), ∃ (n : Nat), ∃ (c : Nat), v = Value.slice a n c ∧ VSem Tryz.prog fc21 (cd Tryz.f21 33) [(0, Value.slice (some (Addr.mk b0 0 none)) 2 2), (2, Value.slice none 0 0), (3, Value.int IntKind.i64 (↑(List.length xs + List.length ys) : Int)), (5, Value.slice b (List.length ys) d), (6, Value.slice a n c), (9, Value.slice (some (Addr.mk b0 0 none)) 2 2), (10, Value.int IntKind.i64 2), (11, Value.int IntKind.i64 2), (12, Value.bool false), (20, Value.bool (decide ((↑(List.length xs + List.length ys) : Int) < 0))), (25, Value.slice (some (Addr.mk b0 0 none)) 2 2), (26, Value.int IntKind.i64 2), (27, Value.int IntKind.i64 0)] h (vcBlock 2 (vcThen (fun (r : Regs) (h : Heap) => vcCode Tryz.prog fc21 (cd Tryz.f21 46) r h (vcPost Tryz.prog (Array.toList (Func.results Tryz.f21)) K X)) (vcPost Tryz.prog (Array.toList (Func.results Tryz.f21)) K X)))) fun (ch : List PanicEntry) (h : Heap) => X ch h) (by kernel_rfl) ?_
  refine grow_spec (by omega) fun a1 c1 h1 e1 ho1 => ⟨a1, 0, c1, rfl, ?_⟩
  refine loop_unr mixed (by kernel_rfl) 3 ?_
  refine Wrap.mk ?_; refine kmp (B := ∃ (b_1 : Nat), ∃ (o : Nat), ∃ (j : Nat), some (Addr.mk b0 0 none) = some (Addr.mk b_1 o none) ∧ 0 = (↑j : Int) ∧ j < 2 ∧ ∃ (a : Option Addr), ∃ (n : Nat), ∃ (c : Nat), cellAt h1 b_1 (o + j) = some (Value.slice a n c) ∧ AppK 9 1 16 [Value.string (ByteArray.mk #[])] (Value.slice a1 0 c1) (Value.slice a n c) h1 fun (a_1 : Option Addr) (n_1 c_1 : Nat) (h : Heap) => ∃ (n_2 : Int), Wr IntKind.i64 1 n_2 ∧ unr Tryz.prog fc21 (cd Tryz.f21 34) (vcBlock 2 (vcThen (fun (r : Regs) (h : Heap) => vcCode Tryz.prog fc21 (cd Tryz.f21 46) r h (vcPost Tryz.prog (Array.toList (Func.results Tryz.f21)) K X)) (vcPost Tryz.prog (Array.toList (Func.results Tryz.f21)) K X))) 2 [(0, Value.slice (some (Addr.mk b0 0 none)) 2 2), (2, Value.slice none 0 0), (3, Value.int IntKind.i64 (↑(List.length xs + List.length ys) : Int)), (5, Value.slice b (List.length ys) d), (6, Value.slice a_1 n_1 c_1), (8, Value.slice a n c), (9, Value.slice (some (Addr.mk b0 0 none)) 2 2), (10, Value.int IntKind.i64 2), (11, Value.int IntKind.i64 2), (12, Value.bool false), (20, Value.bool (decide ((↑(List.length xs + List.length ys) : Int) < 0))), (25, Value.slice (some (Addr.mk b0 0 none)) 2 2), (26, Value.int IntKind.i64 2), (27, Value.int IntKind.i64 n_2), (28, Value.bool true)] h) (by kernel_rfl) ?_
  have hb1 := hb0.ext e1 h0l
  refine ⟨b0, 0, 0, rfl, rfl, by omega, a, xs.length, c, by rw [hb1.cell]; rfl, ?_⟩
  refine ho1.appG (fun b hb => Nat.lt_of_lt_of_le hb e1.size) ((hl.mono hsub).ext e1) rfl (by simp; omega) (by simp; omega) fun a2 n2 c2 h2 hn2 hg2 => ?_
  refine ⟨1, wrI' (by omega) (by omega) (by omega), ?_⟩
  refine Wrap.mk ?_; refine kmp (B := ∃ (b_1 : Nat), ∃ (o : Nat), ∃ (j : Nat), some (Addr.mk b0 0 none) = some (Addr.mk b_1 o none) ∧ 1 = (↑j : Int) ∧ j < 2 ∧ ∃ (a : Option Addr), ∃ (n : Nat), ∃ (c : Nat), cellAt h2 b_1 (o + j) = some (Value.slice a n c) ∧ AppK 9 1 16 [Value.string (ByteArray.mk #[])] (Value.slice a2 n2 c2) (Value.slice a n c) h2 fun (a_1 : Option Addr) (n_1 c_1 : Nat) (h : Heap) => ∃ (n_2 : Int), Wr IntKind.i64 2 n_2 ∧ unr Tryz.prog fc21 (cd Tryz.f21 34) (vcBlock 2 (vcThen (fun (r : Regs) (h : Heap) => vcCode Tryz.prog fc21 (cd Tryz.f21 46) r h (vcPost Tryz.prog (Array.toList (Func.results Tryz.f21)) K X)) (vcPost Tryz.prog (Array.toList (Func.results Tryz.f21)) K X))) 1 [(0, Value.slice (some (Addr.mk b0 0 none)) 2 2), (2, Value.slice none 0 0), (3, Value.int IntKind.i64 (↑(List.length xs + List.length ys) : Int)), (5, Value.slice b (List.length ys) d), (6, Value.slice a_1 n_1 c_1), (8, Value.slice a n c), (9, Value.slice (some (Addr.mk b0 0 none)) 2 2), (10, Value.int IntKind.i64 2), (11, Value.int IntKind.i64 2), (12, Value.bool false), (20, Value.bool (decide ((↑(List.length xs + List.length ys) : Int) < 0))), (25, Value.slice (some (Addr.mk b0 0 none)) 2 2), (26, Value.int IntKind.i64 2), (27, Value.int IntKind.i64 n_2), (28, Value.bool true)] h) (by kernel_rfl) ?_
  have e2 := e1.trans (hg2.keep ho1 (fun b hb => Nat.lt_of_lt_of_le hb e1.size))
  have hb2 := hb0.ext e2 h0l
  refine ⟨b0, 0, 1, rfl, rfl, by omega, b, ys.length, d, by rw [hb2.cell]; rfl, ?_⟩
  refine hg2.own.appG (fun b hb => Nat.lt_of_lt_of_le hb e2.size) ((hq.mono hsub).ext e2) rfl (by simp; omega) (by simp; omega) fun a3 n3 c3 h3 hn3 hg3 => ?_
  refine ⟨2, wrI' (by omega) (by omega) (by omega), ?_⟩
  refine Wrap.mk ?_; refine kmp (B := K (Value.slice a3 n3 c3) h3) (by kernel_rfl) ?_
  exact hK _ _ _ _ (e2.trans (hg3.keep hg2.own (fun b hb => Nat.lt_of_lt_of_le hb e2.size))) hg3.own

theorem clone_spec {v : Value} {xs : List ByteArray} (hl : Sl eStr (Al h) h v xs) (hn : xs.length ≤ 100000000)
    (hK : ∀ a n c h', Ext (Al h) h h' → Own eStr (Al h) h' (.slice a n c) xs → K (.slice a n c) h') : CallK Tryz.prog 45 [v] h K X := by
  obtain ⟨a, c, rfl, _⟩ := hl.form
  refine callK_of_vc fc45 mixed Tryz.func45 ok45 (Nat.le_of_ble_eq_true rfl) ?_
  refine kmp (B := iteB (Option.isNone a) (K (Value.slice none 0 0) h) (∀ (b : Nat) (h' : Array Obj), b = Array.size h → h' = Array.push h (Obj.cells #[] 9) → AppK 9 1 16 [Value.string (ByteArray.mk #[])] (Value.slice (some (Addr.mk b 0 none)) 0 0) (Value.slice a (List.length xs) c) h' fun (a : Option Addr) (n c : Nat) (h : Heap) => K (Value.slice a n c) h)) (by kernel_rfl) ?_ -- ENTERED
  cases a with
  | none =>
    have : xs = [] := by
      obtain ⟨_, _, hv, _, hc⟩ := hl
      cases hv
      rcases hc with ⟨_, h⟩ | ⟨_, _, h, _⟩
      · exact h
      · cases h
    subst this
    exact hK _ _ _ _ Ext.rfl Own.nil
  | some a =>
    rintro b h1 rfl rfl
    have ho : Own eStr (Al h) (h.push (.cells #[] 9)) (.slice (some ⟨h.size, 0, none⟩) 0 0) ([] : List ByteArray) := Own.mkS (xs := []) (fun hh => Nat.lt_irrefl _ hh) (Nat.le_refl _) (zs := []) Blk.push rfl
    refine ho.appG (fun b hb => by have : b < h.size := hb; simp; omega) (hl.ext Ext.pushA) rfl (by simp; omega) (by simp; omega) fun a2 n2 c2 h2 hn2 hg2 => ?_
    exact hK _ _ _ _ (Ext.pushA.trans (hg2.keep ho (fun b hb => by have : b < h.size := hb; simp; omega))) hg2.own

theorem sort_spec {a : Option Addr} {n c : Nat} {xs : List ByteArray} (ho : Own eStr S h (.slice a n c) xs) (hn : xs.length ≤ 100000000)
    (hK : ∀ h', Grown eStr S h (.slice a n c) h' (.slice a n c) (((xs.map key).mergeSort fun x y => decide (x ≤ y)).map ofKey) → K (.tuple #[]) h') : CallK Tryz.prog 46 [.slice a n c] h K X := by
  refine callK_of_calls (by kernel_rfl) fun w hw => ?_
  subst hw
  rcases ho.blkS with ⟨rfl, hv⟩ | ⟨b, c', zs, hv, hb, hle, hblk, hz⟩
  · cases hv
    refine (Tryz.slices_Sort_string_none none 0 w).mono ?_
    rintro e w' ⟨rfl, rfl⟩
    exact ⟨.refl _ _, _, rfl, hK _ (by simpa using Grown.rfl ho)⟩
  · cases hv
    have hmap : xs.map Value.string = (xs.map key).toArray.toList.map encStr := by
      simp [encStr, key]
    rw [hmap] at hblk
    have hcall := Tryz.slices_Sort_string b 0 c (xs.map key) w (holds_blk hblk) hblk.lt (by rw [List.length_map]; omega)
    rw [List.length_map] at hcall
    refine hcall.mono ?_
    rintro e w' ⟨rfl, k, os, rfl⟩
    refine ⟨below0_of rfl rfl rfl (by simp [Sort.putRow, Sort.mapBlock, Sort.ahead]), _, rfl, hK _ ?_⟩
    have hb' : Blk (Sort.ahead w k).heap b ((xs.map key).toArray.toList.map encStr ++ zs) := hblk
    obtain ⟨h1, h2⟩ := putRow_blk (os := os) (d := ((xs.map key).mergeSort fun x y => decide (x ≤ y)).toArray) hb' (by simp)
    rw [List.drop_left' (by simp)] at h1
    refine ⟨?_, by simp [Sort.putRow, Sort.mapBlock, Sort.ahead], fun T hT hv => ⟨by simp [Sort.putRow, Sort.mapBlock, Sort.ahead], fun b' hb'' => h2 b' (hT b' hb'') ?_⟩, fun _ h => .inl h⟩
    · have := Own.mkS (S := S) (c := c) (xs := ((xs.map key).mergeSort fun x y => decide (x ≤ y)).map ofKey) (zs := zs) hb (by simpa using hle) (by
        have e : (((xs.map key).mergeSort fun x y => decide (x ≤ y)).map ofKey).map Value.string = ((xs.map key).mergeSort fun x y => decide (x ≤ y)).toArray.toList.map encStr := by
          rw [List.map_map]; rfl
        rw [e]; exact h1) (by simpa using hz)
      simpa using this
    · rintro rfl
      exact hv _ rfl hb''

theorem compact_spec {a : Option Addr} {n c : Nat} {ks : List (List UInt8)} (ho : Own eStr S h (.slice a n c) (ks.map ofKey)) (hn : ks.length ≤ 100000000)
    (hK : ∀ n' h', Grown eStr S h (.slice a n c) h' (.slice a n' c) ((Lib.compact ks).map ofKey) → K (.slice a n' c) h') : CallK Tryz.prog 47 [.slice a n c] h K X := by
  refine callK_of_calls (by kernel_rfl) fun w hw => ?_
  subst hw
  rcases ho.blkS with ⟨hx, hv⟩ | ⟨b, c', zs, hv, hb, hle, hblk, hz⟩
  · cases hv
    have : ks = [] := by simpa using hx
    subst this
    refine (Tryz.slices_Compact_string_empty none 0 w).mono ?_
    rintro e w' ⟨rfl, rfl⟩
    exact ⟨.refl _ _, _, rfl, hK _ _ (Grown.rfl ho)⟩
  · cases hv
    have hmap : (ks.map ofKey).map Value.string = ks.toArray.toList.map encStr := by
      rw [List.map_map]; rfl
    rw [hmap] at hblk
    have hlen : (ks.map ofKey).length = ks.length := by simp
    rw [hlen] at hle hz
    have := Tryz.slices_Compact_string b 0 c ks w (holds_blk hblk) (by omega) hle
    rw [hlen]
    refine this.mono ?_
    rintro e w' ⟨rfl, k, rfl⟩
    refine ⟨below0_of rfl rfl rfl (by simp [Sort.putRow, Sort.mapBlock, Sort.ahead]), _, rfl, ?_⟩
    have hcl := Lib.compact_length_le ks
    have hb' : Blk (Sort.ahead w k).heap b (ks.toArray.toList.map encStr ++ zs) := hblk
    obtain ⟨h1, h2⟩ := putRow_blk (os := #[]) (d := (Lib.compact ks ++ List.replicate (ks.length - (Lib.compact ks).length) []).toArray) hb' (by simp; omega)
    rw [List.drop_left' (by simp; omega), Sort.grow_empty] at h1
    simp only [Sort.grow_empty] at h2
    refine hK _ _ ⟨?_, by simp [Sort.putRow, Sort.mapBlock, Sort.ahead], fun T hT hv => ⟨by simp [Sort.putRow, Sort.mapBlock, Sort.ahead], fun b' hb'' => h2 b' (hT b' hb'') ?_⟩, fun _ h => .inl h⟩
    · have := Own.mkS (S := S) (c := c) (xs := (Lib.compact ks).map ofKey) (zs := (List.replicate (ks.length - (Lib.compact ks).length) []).map encStr ++ zs) hb (by rw [List.length_map]; omega) (by
        have e : ((Lib.compact ks).map ofKey).map Value.string ++ ((List.replicate (ks.length - (Lib.compact ks).length) []).map encStr ++ zs) = (Lib.compact ks ++ List.replicate (ks.length - (Lib.compact ks).length) []).toArray.toList.map encStr ++ zs := by
          rw [← List.append_assoc, List.map_map, List.toList_toArray, List.map_append]; rfl
        rw [e]; exact h1) (by simp only [List.length_append, List.length_map, List.length_replicate]; omega)
      simpa using this
    · rintro rfl
      exact hv _ rfl hb''

theorem rising_spec {v : Value} {xs : List ByteArray} (hl : Sl eStr (Al h) h v xs) (hn : xs.length ≤ 100000000)
    (hK : ∀ a n c h', Ext (Al h) h h' → Sl eStr (New h h') h' (.slice a n c) (rise xs) → K (.slice a n c) h') : CallK Tryz.prog 20 [v] h K X := by
  obtain ⟨a, c, rfl, _⟩ := hl.form
  refine callK_of_vc fc20 mixed Tryz.func20 ok20 (Nat.le_of_ble_eq_true rfl) ?_
  refine kmp (B := CallK Tryz.prog 45 [Value.slice a (List.length xs) c] h (fun (v : Value) (h : Heap) => ∃ (a : Option Addr), ∃ (n : Nat), ∃ (c : Nat), v = Value.slice a n c ∧ CallK Tryz.prog 46 [Value.slice a n c] h (fun (v : Value) (h : Heap) => v = Value.tuple #[] ∧ CallK Tryz.prog 47 [Value.slice a n c] h (fun (v : Value) (h : Heap) => ∃ (a : Option Addr), ∃ (n : Nat), ∃ (c : Nat), v = Value.slice a n c ∧ ∃ (l : Nat), ∃ (h' : Nat), ∃ (m : Nat), l = 0 ∧ (↑n : Int) = (↑h' : Int) ∧ (↑n : Int) = (↑m : Int) ∧ l ≤ h' ∧ h' ≤ m ∧ m ≤ c ∧ spotless a ∧ ∀ (a' : Option Addr), SubA a 1 l m a' → K (Value.slice a' (h' - l) (m - l)) h) fun (ch : List PanicEntry) (h : Heap) => X ch h) fun (ch : List PanicEntry) (h : Heap) => X ch h) fun (ch : List PanicEntry) (h : Heap) => X ch h) (by kernel_rfl) ?_ -- ENTERED
  refine clone_spec hl hn fun a1 n1 c1 h1 e1 ho1 => ⟨a1, n1, c1, rfl, ?_⟩
  refine sort_spec ho1 hn fun h2 g2 => ⟨rfl, ?_⟩
  refine compact_spec g2.own (by simp; omega) fun n3 h3 g3 => ⟨a1, n3, c1, rfl, ?_⟩
  rw [rise_sorted] at g3
  have e3 : Ext (Al h) h h3 := by
    have := g2.trans g3
    exact e1.trans (this.keep ho1 (fun b hb => Nat.lt_of_lt_of_le hb e1.size))
  have hsl := g3.own.newS
  obtain ⟨_, _, hf, hle⟩ := g3.own.form
  cases hf
  refine ⟨0, (rise xs).length, (rise xs).length, rfl, rfl, rfl, by omega, by omega, hle, ?_, ?_⟩
  · obtain ⟨_, _, hv, _, hc⟩ := hsl
    cases hv
    rcases hc with ⟨rfl, _⟩ | ⟨b, o, rfl, _⟩
    · exact trivial
    · exact rfl
  · intro a' ha'
    refine hK _ _ _ _ e3 ?_
    obtain ⟨_, _, hv, _, hc⟩ := hsl
    cases hv
    rcases hc with ⟨rfl, hnil⟩ | ⟨b, o, rfl, hb, hc⟩
    · rw [ha'.nil rfl, hnil]; exact Sl.nil
    · obtain ⟨o', rfl, h1, h2⟩ := ha'.at_ b o rfl
      have : o' = o := by
        by_cases hz : (rise xs).length = 0
        · exact h1 hz
        · rw [h2 hz]; simp [mulE]
      subst this
      exact ⟨_, _, rfl, Nat.le_refl _, .inr ⟨b, o', rfl, hb, hc⟩⟩

theorem funion_spec {v w : Value} {xs ys : List ByteArray} (hl : Sl eStr (Al h) h v xs) (hq : Sl eStr (Al h) h w ys) (hn : xs.length ≤ 10000000) (hm : ys.length ≤ 10000000)
    (hK : ∀ a n c h', Ext (Al h) h h' → Sl eStr (New h h') h' (.slice a n c) (rise (xs ++ ys)) → K (.slice a n c) h') : CallK Tryz.prog 6 [v, w] h K X := by
  obtain ⟨a, c, rfl, _⟩ := hl.form
  obtain ⟨b, d, rfl, _⟩ := hq.form
  refine callK_of_vc fc6 mixed Tryz.func6 ok6 (Nat.le_of_ble_eq_true rfl) ?_
  refine kmp (B := ∀ (b_1 : Nat) (h' : Array Obj), b_1 = Array.size h → h' = Array.push h (Obj.cells #[Value.slice a (List.length xs) c, Value.slice b (List.length ys) d] 22) → CallK Tryz.prog 21 [Value.slice (some (Addr.mk b_1 0 none)) 2 2] h' (fun (v : Value) (h : Heap) => ∃ (a : Option Addr), ∃ (n : Nat), ∃ (c : Nat), v = Value.slice a n c ∧ CallK Tryz.prog 20 [Value.slice a n c] h (fun (v : Value) (h : Heap) => ∃ (a : Option Addr), ∃ (n : Nat), ∃ (c : Nat), v = Value.slice a n c ∧ K (Value.slice a n c) h) fun (ch : List PanicEntry) (h : Heap) => X ch h) fun (ch : List PanicEntry) (h : Heap) => X ch h) (by kernel_rfl) ?_ -- ENTERED
  rintro b1 h1 rfl rfl
  refine concat_spec (h0 := h) (hl.ext Ext.pushA) (hq.ext Ext.pushA) hn hm (by simp) Blk.push fun a2 n2 c2 h2 e2 ho2 => ⟨a2, n2, c2, rfl, ?_⟩
  refine rising_spec (ho2.slA (fun b hb => Nat.lt_of_lt_of_le hb e2.size)) (by simp; omega) fun a3 n3 c3 h3 e3 hs3 => ⟨a3, n3, c3, rfl, ?_⟩
  exact hK _ _ _ _ ((Ext.pushA.trans (e2.al (by simp))).trans (e3.al (by have := e2.size; simp at this; omega))) (hs3.mono fun b hb => ⟨by have := e2.size; simp at this; have := hb.1; omega, hb.2⟩)

end Go.Proofs.YtdnlhicbjhgjiaaGreatDoor
