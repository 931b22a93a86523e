/- A Map of versions side by side with other things (for seats without the laws of chapter 12). -/
import Derived.Test.YtnjidpmggggiiaaPlainExt
import Derived.Test.YtnjidpmggggiiaaBlock
import Derived.Test.YtnjidpmggggiiaaAlike
namespace Go.Proofs
open Go.RowKit Sc

theorem extNew_sep {W w : World} {L : List Asn} (h : Sep W L w) (n : Int) (h1 : 1 ≤ n) (h2 : n ≤ 1048576) :
    Calls Try.prog 33 #[.int .i64 n] w fun e w' => ∃ b : Nat, e = .returned (.tuple #[.pointer (some ⟨b, 0, none⟩), .int .i64 0]) ∧ Sep W (L ++ [ExtA (.pointer (some ⟨b, 0, none⟩)) n 0 []]) w' := by
  refine (extNew_any n w h1 h2).mono ?_
  rintro e w' ⟨v, rfl, hm, hb⟩
  have := h.new hb (ExtA v n 0 []) (fun _ h => h) hm
  obtain ⟨b, r, ml, D, rfl, _⟩ := hm.parts
  exact ⟨b, rfl, this⟩
theorem extApply_sep {W w : World} {L : List Asn} (h : Sep W L w) (i : Nat) {v tv : Value} {blocks last : Int} {vs : Vers} (hi : L[i]? = some (ExtA v blocks last vs)) (h1 : 1 ≤ blocks) (t : Tx) (ht : ∀ G, Sc.Rest L i G w → TxAt G w tv t)
    (hln : ∀ k l, alook vs k = some l → l.length ≤ 1000000) (hpl : t.puts.length ≤ 1000000) :
    Calls Try.prog 17 #[v, tv] w fun e w' => e = .returned (.int .i64 (applyCode blocks last t)) ∧ Sep W (L.set i (ExtA v blocks (applyLast blocks last t) (applyNext blocks last vs t))) w' := by
  obtain ⟨F, G, hF, hR, hFG, hdF, hdG, K⟩ := h.at i hi
  refine (extApply_any F G v tv blocks last vs t w hF h1 (ht G hR) hdG hFG hln hpl).mono ?_
  rintro e w' ⟨rfl, hc, hm⟩
  exact ⟨rfl, K w' _ (ExtA v blocks (applyLast blocks last t) (applyNext blocks last vs t)) hc (fun k hk => hk) hm⟩
/-- An argument is as it was: for what is handed on. -/
theorem rest_old {W w : World} {L : List Asn} {i : Nat} {G : Foot} (hi : i ≠ 0) (hr : Sc.Rest (OldA W :: L) i G w) : ∀ k, k < W.heap.size → G k := by
  obtain ⟨F, h1, h2⟩ := hr 0 (OldA W) (fun e => hi e.symm) rfl
  exact fun k hk => h1 k (h2.1 k hk)
theorem data_sz (k : Int) : (dataB k).length = 40 := dataB_length k

end Go.Proofs
