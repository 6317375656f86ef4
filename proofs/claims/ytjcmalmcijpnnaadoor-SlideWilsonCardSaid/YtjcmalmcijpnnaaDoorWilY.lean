/-
  Rings and the board of seven places, and how many positions are reached there.
  Conditions: none.
-/
import Derived.Test.YtjcmalmcijpnnaaDoorChkV
import Derived.Test.YtjcmalmcijpnnaaDoorWilX

namespace Go.Eng

/-- Whether pairs are the edges of a board, as a test. -/
def gridB (N : Nat) (l : List (Nat × Nat)) : Bool := (l.all fun q => Nat.blt q.1 q.2 && Nat.blt q.2 N) && ((List.range (l.length - 1)).all fun i => Nat.blt (l.getD i (0, 0)).1 (l.getD (i + 1) (0, 0)).1 || (Nat.beq (l.getD i (0, 0)).1 (l.getD (i + 1) (0, 0)).1 && Nat.blt (l.getD i (0, 0)).2 (l.getD (i + 1) (0, 0)).2)) && ((List.range N).all fun i => rounds l (-1) (fun j => j == 0) N i)
theorem gridB_board {N : Nat} {l : List (Nat × Nat)} (hN : 2 ≤ N) (h : gridB N l = true) : IsBoard N (ints l) := by
  unfold gridB at h
  rw [Bool.and_eq_true, Bool.and_eq_true, List.all_eq_true, List.all_eq_true, List.all_eq_true] at h
  obtain ⟨⟨h1, h2⟩, h3⟩ := h
  have hm : ∀ q ∈ l, q.1 < q.2 ∧ q.2 < N := fun q hq => by
    have := h1 q hq
    rw [Bool.and_eq_true, Nat.blt_eq, Nat.blt_eq] at this
    exact this
  refine ⟨fun i hi => ?_, fun i hi _ => ?_⟩
  · rw [ints_len] at hi
    unfold EdgeOK
    rw [ints_fst, ints_snd, ints_fst, ints_snd]
    have e1 : l.getD i (0, 0) = l[i] := by rw [List.getD_eq_getElem?_getD, List.getElem?_eq_getElem hi]; rfl
    have hq := hm _ (List.getElem_mem hi)
    refine ⟨by rw [e1]; omega, fun h0 => ?_⟩
    have h0' : 0 < i := by omega
    have := h2 (i - 1) (List.mem_range.2 (by omega))
    rw [show i - 1 + 1 = i by omega] at this
    rw [Bool.or_eq_true, Bool.and_eq_true, Nat.blt_eq, Nat.blt_eq] at this
    rcases this with this | ⟨g1, g2⟩
    · left; omega
    · right
      have g1 := Nat.eq_of_beq_eq_true g1
      omega
  · rw [nats_ints]
    have law := rounds_law (n := N) (qs := l) (but := -1) (s := 0) (by omega) (fun q hq => by have := hm q hq; omega)
    exact (law i).1 (h3 i (List.mem_range.2 hi))
end Go.Eng

namespace Go.Eng
/-- A search tree of numbers, each with another one. -/
inductive T2
  | l
  | n (a : T2) (k d : Nat) (b : T2)
def ringT3 : T2 := (.n (.n (.n .l 0x20a 0 .l) 0x211 3 (.n .l 0x242 1 .l)) 0x250 2 (.n (.n .l 0x281 2 .l) 0x288 1 .l))
def ringT4 : T2 := (.n (.n (.n (.n .l 0x1053 0 .l) 0x1099 4 (.n .l 0x10ca 4 .l)) 0x1213 1 (.n (.n .l 0x1283 2 .l) 0x1298 3 .l)) 0x1419 5 (.n (.n (.n .l 0x14c1 6 .l) 0x14c8 5 .l) 0x160a 3 (.n (.n .l 0x1642 2 .l) 0x1650 1 .l)))
def ringT5 : T2 := (.n (.n (.n (.n (.n .l 0x829c 0 .l) 0x84e1 5 .l) 0x870a 10 (.n (.n .l 0x8853 5 .l) 0x909c 1 .l)) 0x941c 2 (.n (.n (.n .l 0x94c4 3 .l) 0x94e0 4 .l) 0xa0e1 6 (.n .l 0xa621 7 .l))) 0xa701 8 (.n (.n (.n (.n .l 0xa708 9 .l) 0xb10a 9 .l) 0xb80a 8 (.n .l 0xb842 7 .l)) 0xb850 6 (.n (.n (.n .l 0xc053 4 .l) 0xc213 3 .l) 0xc283 2 (.n .l 0xc298 1 .l))))
def ringT6 : T2 := (.n (.n (.n (.n (.n .l 0x414e5 0 .l) 0x42729 6 (.n .l 0x4394a 12 .l)) 0x44a53 12 (.n (.n .l 0x4529c 6 .l) 0x484e5 1 (.n .l 0x4a0e5 2 .l))) 0x4a625 3 (.n (.n (.n .l 0x4a705 4 .l) 0x4a728 5 (.n .l 0x50729 7 .l)) 0x53129 8 (.n (.n .l 0x53829 9 .l) 0x53941 10 (.n .l 0x53948 11 .l)))) 0x5894a 13 (.n (.n (.n (.n .l 0x5c14a 14 .l) 0x5ca0a 15 (.n .l 0x5ca42 14 .l)) 0x5ca50 13 (.n (.n .l 0x60a53 11 .l) 0x65053 10 (.n .l 0x65213 9 .l))) 0x65283 8 (.n (.n (.n .l 0x65298 7 .l) 0x6829c 5 (.n .l 0x6909c 4 .l)) 0x6941c 3 (.n (.n .l 0x694c4 2 .l) 0x694e0 1 .l))))
def ringT7 : T2 := (.n (.n (.n (.n (.n (.n .l 0x20a72e 0 .l) 0x213971 7 .l) 0x21cb8a 14 (.n (.n .l 0x225c53 21 .l) 0x22e29c 14 .l)) 0x2314e5 7 (.n (.n (.n .l 0x24272e 1 .l) 0x25072e 2 .l) 0x25312e 3 (.n .l 0x25382e 4 .l))) 0x253946 5 (.n (.n (.n (.n .l 0x253970 6 .l) 0x283971 8 .l) 0x298971 9 (.n (.n .l 0x29c171 10 .l) 0x29ca31 11 .l)) 0x29cb81 12 (.n (.n (.n .l 0x29cb88 13 .l) 0x2c4b8a 15 .l) 0x2e0b8a 16 (.n .l 0x2e518a 17 .l)))) 0x2e5c0a 18 (.n (.n (.n (.n (.n .l 0x2e5c42 19 .l) 0x2e5c50 20 .l) 0x305c53 20 (.n (.n .l 0x328c53 19 .l) 0x32e053 18 .l)) 0x32e213 17 (.n (.n (.n .l 0x32e283 16 .l) 0x32e298 15 .l) 0x34629c 13 (.n .l 0x37029c 12 .l))) 0x37109c 11 (.n (.n (.n (.n .l 0x37141c 10 .l) 0x3714c4 9 .l) 0x3714e0 8 (.n .l 0x3814e5 6 .l)) 0x3884e5 5 (.n (.n (.n .l 0x38a0e5 4 .l) 0x38a625 3 .l) 0x38a705 2 (.n .l 0x38a728 1 .l)))))
def ringT8 : T2 := (.n (.n (.n (.n (.n (.n .l 0x1053977 0 .l) 0x109cbb9 8 (.n .l 0x10e5dca 16 .l)) 0x112ee53 24 (.n (.n .l 0x117729c 24 .l) 0x11b94e5 16 (.n .l 0x11ca72e 8 .l))) 0x1213977 1 (.n (.n (.n .l 0x1283977 2 .l) 0x1298977 3 (.n .l 0x129c177 4 .l)) 0x129ca37 5 (.n (.n .l 0x129cb87 6 .l) 0x129cbb8 7 .l))) 0x141cbb9 9 (.n (.n (.n (.n .l 0x14c4bb9 10 .l) 0x14e0bb9 11 (.n .l 0x14e51b9 12 .l)) 0x14e5c39 13 (.n (.n .l 0x14e5dc1 14 .l) 0x14e5dc8 15 .l)) 0x1625dca 17 (.n (.n (.n .l 0x1705dca 18 .l) 0x1728dca 19 (.n .l 0x172e1ca 20 .l)) 0x172ee0a 21 (.n (.n .l 0x172ee42 22 .l) 0x172ee50 23 .l)))) 0x182ee53 25 (.n (.n (.n (.n (.n .l 0x1946e53 26 .l) 0x1970e53 27 (.n .l 0x1977053 28 .l)) 0x1977213 27 (.n (.n .l 0x1977283 26 .l) 0x1977298 25 .l)) 0x1a3729c 23 (.n (.n (.n .l 0x1b8729c 22 .l) 0x1bb829c 21 (.n .l 0x1bb909c 20 .l)) 0x1bb941c 19 (.n (.n .l 0x1bb94c4 18 .l) 0x1bb94e0 17 .l))) 0x1c394e5 15 (.n (.n (.n (.n .l 0x1dc14e5 14 .l) 0x1dc84e5 13 (.n .l 0x1dca0e5 12 .l)) 0x1dca625 11 (.n (.n .l 0x1dca705 10 .l) 0x1dca728 9 .l)) 0x1e0a72e 7 (.n (.n (.n .l 0x1e4272e 6 .l) 0x1e5072e 5 (.n .l 0x1e5312e 4 .l)) 0x1e5382e 3 (.n (.n .l 0x1e53946 2 .l) 0x1e53970 1 .l)))))
def sevenT : T2 := (.n (.n (.n (.n (.n (.n (.n (.n (.n (.n .l 0x20a72e 0 .l) 0x20a973 21 (.n .l 0x20ab9c 26 .l)) 0x20ace5 21 (.n (.n .l 0x20b566 16 .l) 0x20b995 10 .l)) 0x20bb32 11 (.n (.n (.n .l 0x20bcac 21 .l) 0x20c5ab 21 (.n .l 0x20c6b5 22 .l)) 0x20cad6 11 (.n (.n .l 0x20cd5a 16 .l) 0x20d4f4 10 .l))) 0x20d7a2 21 (.n (.n (.n (.n .l 0x20d89e 11 .l) 0x20dd13 16 (.n .l 0x20e51d 11 .l)) 0x20e754 21 (.n (.n .l 0x20e8ea 22 .l) 0x20eaa3 16 .l)) 0x2117ac 20 (.n (.n (.n .l 0x2118f5 27 .l) 0x211b1e 16 .l) 0x211d63 17 (.n (.n .l 0x213374 16 .l) 0x21386e 5 .l)))) 0x213ba1 21 (.n (.n (.n (.n (.n .l 0x213d0d 16 .l) 0x21439d 11 (.n .l 0x21474e 21 .l)) 0x214a73 16 (.n (.n .l 0x214ce9 16 .l) 0x2152e6 16 .l)) 0x215731 5 (.n (.n (.n .l 0x21598b 16 .l) 0x215c5c 21 .l) 0x21632b 21 (.n (.n .l 0x216665 16 .l) 0x216959 16 .l))) 0x216acc 11 (.n (.n (.n (.n .l 0x2195a5 16 .l) 0x219956 16 (.n .l 0x219ab4 11 .l)) 0x219d2a 21 (.n (.n .l 0x21a335 26 .l) 0x21a9a9 15 .l)) 0x21aa66 21 (.n (.n (.n .l 0x21ad4c 12 .l) 0x21c2ae 10 .l) 0x21c571 11 (.n (.n .l 0x21cb8a 16 .l) 0x21cc55 15 .l))))) 0x21d394 17 (.n (.n (.n (.n (.n (.n .l 0x21d50e 21 .l) 0x21d872 10 (.n .l 0x21dca1 16 .l)) 0x21e362 17 (.n (.n .l 0x21e46c 16 .l) 0x21e88d 15 .l)) 0x21eb11 16 (.n (.n (.n .l 0x2214ee 5 .l) 0x221772 16 (.n .l 0x221b93 21 .l)) 0x221c9d 16 (.n (.n .l 0x22235e 21 .l) 0x22278d 15 .l))) 0x222af1 6 (.n (.n (.n (.n .l 0x222c6b 20 .l) 0x2233aa 16 (.n .l 0x223475 21 .l)) 0x223a8e 16 (.n (.n .l 0x223d51 17 .l) 0x2252b3 15 .l)) 0x225599 22 (.n (.n (.n .l 0x225656 16 .l) 0x225cca 11 .l) 0x2262d5 10 (.n (.n .l 0x22654b 16 .l) 0x2266a9 17 .l)))) 0x226a5a 21 (.n (.n (.n (.n (.n .l 0x229533 16 .l) 0x2296a6 21 (.n .l 0x22999a 11 .l)) 0x229cd4 16 (.n (.n .l 0x22a3a3 12 .l) 0x22a674 15 .l)) 0x22a8ce 26 (.n (.n (.n .l 0x22ad19 21 .l) 0x22b316 21 .l) 0x22b58c 17 (.n (.n .l 0x22b8b1 10 .l) 0x22bc62 16 .l))) 0x22c2f2 15 (.n (.n (.n (.n .l 0x22c45e 16 .l) 0x22c791 16 (.n .l 0x22cc8b 17 .l)) 0x22e29c 16 (.n (.n .l 0x22e4e1 15 .l) 0x22e70a 10 .l)) 0x22e853 11 (.n (.n (.n .l 0x23155c 21 .l) 0x231715 5 .l) 0x2318ab 16 (.n (.n .l 0x231ae2 16 .l) 0x2322ec 15 .l)))))) 0x232761 20 (.n (.n (.n (.n (.n (.n (.n .l 0x23285d 6 .l) 0x232b0b 21 (.n .l 0x2332a5 11 .l)) 0x233529 16 (.n (.n .l 0x23394a 15 .l) 0x233a54 22 .l)) 0x234353 16 (.n (.n (.n .l 0x2344cd 10 .l) 0x23466a 17 (.n .l 0x234a99 21 .l)) 0x23531a 16 (.n (.n .l 0x235463 17 .l) 0x23568c 16 .l))) 0x2358d1 21 (.n (.n (.n (.n .l 0x2427ac 18 .l) 0x2428f5 29 (.n .l 0x242b1e 18 .l)) 0x242d63 15 (.n (.n .l 0x2435a5 14 .l) 0x243956 18 .l)) 0x243ab4 13 (.n (.n (.n .l 0x243d2a 19 .l) 0x2444ee 7 .l) 0x244772 18 (.n (.n .l 0x244b93 19 .l) 0x244c9d 14 .l)))) 0x245533 18 (.n (.n (.n (.n (.n .l 0x2456a6 19 .l) 0x24599a 13 (.n .l 0x245cd4 14 .l)) 0x24655c 19 (.n (.n .l 0x246715 7 .l) 0x2468ab 18 .l)) 0x246ae2 14 (.n (.n (.n .l 0x2507ac 19 .l) 0x2508f5 28 .l) 0x250b1e 17 (.n (.n .l 0x250d63 16 .l) 0x253174 15 .l))) 0x253a34 14 (.n (.n (.n (.n .l 0x253d05 17 .l) 0x253d28 18 (.n .l 0x25419d 12 .l)) 0x254746 20 (.n (.n .l 0x254770 19 .l) 0x254c1d 13 .l)) 0x2550e6 17 (.n (.n (.n .l 0x255626 18 .l) 0x255983 15 .l) 0x255998 14 (.n (.n .l 0x25612b 20 .l) 0x25682b 19 .l))))) 0x256ac4 12 (.n (.n (.n (.n (.n (.n .l 0x256ae0 13 .l) 0x2585a5 15 (.n .l 0x258956 17 .l)) 0x258ab4 12 (.n (.n .l 0x258d2a 20 .l) 0x25a135 27 .l)) 0x25a835 28 (.n (.n (.n .l 0x25ad44 13 .l) 0x25ad60 14 .l) 0x25c0ae 9 (.n (.n .l 0x25c42e 8 .l) 0x25cb82 17 .l))) 0x25cb90 18 (.n (.n (.n (.n .l 0x25d194 16 .l) 0x25d506 20 (.n .l 0x25d530 19 .l)) 0x25dc14 15 (.n (.n .l 0x25e162 16 .l) 0x25e885 16 .l)) 0x25e8a8 17 (.n (.n (.n .l 0x25ea22 15 .l) 0x2604ee 6 .l) 0x260772 17 (.n (.n .l 0x260b93 20 .l) 0x260c9d 15 .l)))) 0x26215e 20 (.n (.n (.n (.n (.n .l 0x262785 16 .l) 0x2627a8 17 (.n .l 0x262a1e 19 .l)) 0x2631aa 17 (.n (.n .l 0x263a86 15 .l) 0x263ab0 14 .l)) 0x263c2a 18 (.n (.n (.n .l 0x2650b3 16 .l) 0x265433 17 .l) 0x265cc2 12 (.n (.n .l 0x265cd0 13 .l) 0x2660d5 9 .l))) 0x266543 17 (.n (.n (.n (.n .l 0x266558 18 .l) 0x266615 8 (.n .l 0x268533 17 .l)) 0x2686a6 20 (.n (.n .l 0x26899a 12 .l) 0x268cd4 15 .l)) 0x26a1a3 13 (.n (.n (.n .l 0x26a8c6 27 .l) 0x26a8f0 28 .l) 0x26ac23 14 (.n (.n .l 0x26b116 20 .l) 0x26b584 16 .l))))))) 0x26b5a0 15 (.n (.n (.n (.n (.n (.n (.n (.n .l 0x26b816 19 .l) 0x26c0f2 16 (.n .l 0x26c632 17 .l)) 0x26cc83 16 (.n (.n .l 0x26cc98 15 .l) 0x26e09c 17 .l)) 0x26e41c 18 (.n (.n (.n .l 0x26e702 9 .l) 0x26e710 8 (.n .l 0x27055c 20 .l)) 0x270715 6 (.n (.n .l 0x2708ab 17 .l) 0x270ae2 15 .l))) 0x2720ec 16 (.n (.n (.n (.n .l 0x27262c 17 .l) 0x272b03 20 (.n .l 0x272b18 19 .l)) 0x2730a5 12 (.n (.n .l 0x273425 13 .l) 0x273942 16 .l)) 0x273950 17 (.n (.n (.n .l 0x274153 17 .l) 0x2744c5 9 .l) 0x2744e8 8 (.n (.n .l 0x274a13 18 .l) 0x27511a 15 .l)))) 0x275684 17 (.n (.n (.n (.n (.n .l 0x2756a0 18 .l) 0x27581a 14 (.n .l 0x28172e 2 .l)) 0x281973 19 (.n (.n .l 0x281b9c 24 .l) 0x281ce5 19 .l)) 0x283335 24 (.n (.n (.n .l 0x2839a9 13 .l) 0x283a66 19 .l) 0x283d4c 14 (.n (.n .l 0x28435e 19 .l) 0x28478d 13 .l))) 0x284af1 8 (.n (.n (.n (.n .l 0x284c6b 18 .l) 0x2853a3 14 (.n .l 0x285674 13 .l)) 0x2858ce 24 (.n (.n .l 0x285d19 19 .l) 0x2862ec 13 .l)) 0x286761 18 (.n (.n (.n .l 0x28685d 8 .l) 0x286b0b 19 .l) 0x28872e 1 (.n (.n .l 0x288973 20 .l) 0x288b9c 25 .l))))) 0x288ce5 20 (.n (.n (.n (.n (.n (.n .l 0x28b166 17 .l) 0x28b985 11 (.n .l 0x28b9a8 12 .l)) 0x28ba26 18 (.n (.n .l 0x28c1ab 20 .l) 0x28cac6 10 .l)) 0x28caf0 9 (.n (.n (.n .l 0x28cc2b 19 .l) 0x28d0f4 11 .l) 0x28d634 12 (.n (.n .l 0x28dd03 17 .l) 0x28dd18 18 .l))) 0x28e11d 10 (.n (.n (.n (.n .l 0x28e744 20 .l) 0x28e760 19 (.n .l 0x28e81d 9 .l)) 0x298335 25 (.n (.n .l 0x2989a9 14 .l) 0x298a66 20 .l)) 0x298d4c 13 (.n (.n (.n .l 0x2991a5 17 .l) 0x299946 17 .l) 0x299970 18 (.n (.n .l 0x299c25 18 .l) 0x29c171 10 .l)))) 0x29ca31 9 (.n (.n (.n (.n (.n .l 0x29cc45 16 .l) 0x29cc68 17 (.n .l 0x29d10e 22 .l)) 0x29d384 16 (.n (.n .l 0x29d3a0 15 .l) 0x29d80e 23 .l)) 0x29e06c 15 (.n (.n (.n .l 0x29e22c 14 .l) 0x29eb01 17 .l) 0x29eb08 18 (.n (.n .l 0x2a035e 20 .l) 0x2a078d 14 .l))) 0x2a0af1 7 (.n (.n (.n (.n .l 0x2a0c6b 19 .l) 0x2a10ee 4 (.n .l 0x2a162e 3 .l)) 0x2a1b83 22 (.n (.n .l 0x2a1b98 23 .l) 0x2a3075 22 .l)) 0x2a3235 23 (.n (.n (.n .l 0x2a3d41 16 .l) 0x2a3d48 15 .l) 0x2a5199 21 (.n (.n .l 0x2a5646 15 .l) 0x2a5670 14 .l)))))) 0x2a5c19 20 (.n (.n (.n (.n (.n (.n (.n .l 0x2a614b 17 .l) 0x2a62c5 11 (.n .l 0x2a62e8 12 .l)) 0x2a6a0b 18 (.n (.n .l 0x2a83a3 13 .l) 0x2a8674 14 .l)) 0x2a88ce 25 (.n (.n (.n .l 0x2a8d19 20 .l) 0x2a9133 17 (.n .l 0x2a9833 18 .l)) 0x2a9cc4 17 (.n (.n .l 0x2a9ce0 18 .l) 0x2ab18c 16 .l))) 0x2ab306 22 (.n (.n (.n (.n .l 0x2ab330 23 .l) 0x2abc0c 15 (.n .l 0x2ac05e 17 .l)) 0x2ac21e 18 (.n (.n .l 0x2ac781 15 .l) 0x2ac788 14 .l)) 0x2ae0e1 16 (.n (.n (.n .l 0x2ae621 17 .l) 0x2ae843 10 .l) 0x2ae858 9 (.n (.n .l 0x2b02ec 14 .l) 0x2b0761 19 .l)))) 0x2b085d 7 (.n (.n (.n (.n (.n .l 0x2b0b0b 20 .l) 0x2b115c 22 (.n .l 0x2b1705 4 .l)) 0x2b1728 3 (.n (.n .l 0x2b1a1c 23 .l) 0x2b3129 15 .l)) 0x2b3829 14 (.n (.n (.n .l 0x2b3a44 21 .l) 0x2b3a60 20 .l) 0x2b40cd 11 (.n (.n .l 0x2b4343 17 .l) 0x2b4358 18 .l))) 0x2b460d 12 (.n (.n (.n (.n .l 0x2b5063 16 .l) 0x2b5223 15 (.n .l 0x2b58c1 22 .l)) 0x2b58c8 23 (.n (.n .l 0x2c1566 18 .l) 0x2c1995 8 .l)) 0x2c1b32 13 (.n (.n (.n .l 0x2c1cac 19 .l) 0x2c2374 18 .l) 0x2c286e 3 (.n (.n .l 0x2c2ba1 23 .l) 0x2c2d0d 18 .l))))) 0x2c43aa 14 (.n (.n (.n (.n (.n (.n .l 0x2c4475 19 .l) 0x2c4a8e 18 (.n .l 0x2c4d51 19 .l)) 0x2c5316 19 (.n (.n .l 0x2c558c 19 .l) 0x2c58b1 8 .l)) 0x2c5c62 18 (.n (.n (.n .l 0x2c62a5 13 .l) 0x2c6529 14 .l) 0x2c694a 13 (.n (.n .l 0x2c6a54 24 .l) 0x2c8566 17 .l))) 0x2c8995 9 (.n (.n (.n (.n .l 0x2c8b32 12 .l) 0x2c8cac 20 (.n .l 0x2ca12e 1 .l)) 0x2ca82e 2 (.n (.n .l 0x2cab84 25 .l) 0x2caba0 24 .l)) 0x2cc0b5 21 (.n (.n (.n .l 0x2cc435 20 .l) 0x2ccd42 17 .l) 0x2ccd50 18 (.n (.n .l 0x2cd1a2 20 .l) 0x2cd886 10 .l)))) 0x2cd8b0 9 (.n (.n (.n (.n (.n .l 0x2cdc22 19 .l) 0x2ce154 22 (.n .l 0x2ce505 12 .l)) 0x2ce528 13 (.n (.n .l 0x2cea14 23 .l) 0x2d0374 17 .l)) 0x2d086e 4 (.n (.n (.n .l 0x2d0ba1 22 .l) 0x2d0d0d 17 .l) 0x2d11ac 21 (.n (.n .l 0x2d1b06 15 .l) 0x2d1b30 14 .l))) 0x2d1c2c 20 (.n (.n (.n (.n .l 0x2d414e 20 .l) 0x2d4385 12 (.n .l 0x2d43a8 13 .l)) 0x2d4a0e 19 (.n (.n .l 0x2d5131 6 .l) 0x2d5831 7 .l)) 0x2d5c44 20 (.n (.n (.n .l 0x2d5c60 19 .l) 0x2d6065 15 .l) 0x2d6225 14 (.n (.n .l 0x2d6941 15 .l) 0x2d6948 14 .l)))))))) 0x2e03aa 15 (.n (.n (.n (.n (.n (.n (.n (.n (.n .l 0x2e0475 20 .l) 0x2e0a8e 17 (.n .l 0x2e0d51 18 .l)) 0x2e1172 15 (.n (.n .l 0x2e1a32 14 .l) 0x2e1c85 17 .l)) 0x2e1ca8 18 (.n (.n (.n .l 0x2e218d 16 .l) 0x2e2346 20 (.n .l 0x2e2370 19 .l)) 0x2e2c0d 17 (.n (.n .l 0x2e5056 17 .l) 0x2e5216 18 .l))) 0x2e5581 21 (.n (.n (.n (.n .l 0x2e5588 20 .l) 0x2e60a9 16 (.n .l 0x2e6429 15 .l)) 0x2e6a42 22 (.n (.n .l 0x2e6a50 23 .l) 0x2e8316 20 .l)) 0x2e858c 18 (.n (.n (.n .l 0x2e88b1 9 .l) 0x2e8c62 17 .l) 0x2e90a6 20 (.n (.n .l 0x2e9426 19 .l) 0x2e9982 10 .l)))) 0x2e9990 9 (.n (.n (.n (.n (.n .l 0x2ea074 16 .l) 0x2ea234 17 (.n .l 0x2ead01 20 .l)) 0x2ead08 19 (.n (.n .l 0x2ec191 17 .l) 0x2ec446 17 .l)) 0x2ec470 18 (.n (.n (.n .l 0x2ecc11 18 .l) 0x2ee10a 11 .l) 0x2ee284 15 (.n (.n .l 0x2ee2a0 14 .l) 0x2ee80a 12 .l))) 0x2f02a5 12 (.n (.n (.n (.n .l 0x2f0529 15 .l) 0x2f094a 14 (.n .l 0x2f0a54 23 .l)) 0x2f1115 6 (.n (.n .l 0x2f1544 20 .l) 0x2f1560 19 .l)) 0x2f1815 7 (.n (.n (.n .l 0x2f2161 21 .l) 0x2f2845 5 .l) 0x2f2868 4 (.n (.n .l 0x2f2a21 22 .l) 0x2f406a 16 .l))))) 0x2f422a 15 (.n (.n (.n (.n (.n (.n .l 0x2f4a81 20 .l) 0x2f4a88 19 (.n .l 0x2f508c 17 .l)) 0x2f5302 17 (.n (.n .l 0x2f5310 18 .l) 0x2f540c 18 .l)) 0x3015ab 19 (.n (.n (.n .l 0x3016b5 24 .l) 0x301ad6 13 .l) 0x301d5a 14 (.n (.n .l 0x30239d 9 .l) 0x30274e 23 .l))) 0x302a73 18 (.n (.n (.n (.n .l 0x302ce9 18 .l) 0x3032ae 8 (.n .l 0x303571 13 .l)) 0x303b8a 18 (.n (.n .l 0x303c55 13 .l) 0x3052f2 13 .l)) 0x30545e 14 (.n (.n (.n .l 0x305791 18 .l) 0x305c8b 19 .l) 0x306353 14 (.n (.n .l 0x3064cd 12 .l) 0x30666a 19 .l)))) 0x306a99 19 (.n (.n (.n (.n (.n .l 0x3085ab 20 .l) 0x3086b5 23 (.n .l 0x308ad6 12 .l)) 0x308d5a 15 (.n (.n .l 0x30a173 20 .l) 0x30aa33 19 .l)) 0x30acc5 20 (.n (.n (.n .l 0x30ace8 19 .l) 0x30b195 11 .l) 0x30b546 15 (.n (.n .l 0x30b570 14 .l) 0x30bc15 12 .l))) 0x30d09e 12 (.n (.n (.n (.n .l 0x30d41e 13 .l) 0x30d782 20 (.n .l 0x30d790 19 .l)) 0x30e0ea 21 (.n (.n .l 0x30e62a 20 .l) 0x30ea83 17 .l)) 0x30ea98 18 (.n (.n (.n .l 0x31039d 10 .l) 0x31074e 22 .l) 0x310a73 17 (.n (.n .l 0x310ce9 17 .l) 0x3110f5 26 .l)))))) 0x311635 25 (.n (.n (.n (.n (.n (.n (.n .l 0x311d43 16 .l) 0x311d58 15 (.n .l 0x31306e 6 .l)) 0x31322e 7 (.n (.n .l 0x313b81 20 .l) 0x313b88 19 .l)) 0x31518b 17 (.n (.n (.n .l 0x3152c6 15 .l) 0x3152f0 14 (.n .l 0x315c0b 18 .l)) 0x316159 17 (.n (.n .l 0x316645 17 .l) 0x316668 18 .l))) 0x316a19 18 (.n (.n (.n (.n .l 0x3182ae 9 .l) 0x318571 12 (.n .l 0x318b8a 17 .l)) 0x318c55 14 (.n (.n .l 0x319156 15 .l) 0x319585 17 .l)) 0x3195a8 18 (.n (.n (.n .l 0x319a16 14 .l) 0x31a1a9 16 .l) 0x31aa46 20 (.n (.n .l 0x31aa70 19 .l) 0x31ac29 17 .l)))) 0x31d072 11 (.n (.n (.n (.n (.n .l 0x31d232 12 .l) 0x31dc81 17 (.n .l 0x31dc88 18 .l)) 0x31e08d 14 (.n (.n .l 0x31e342 16 .l) 0x31e350 15 .l)) 0x31e40d 13 (.n (.n (.n .l 0x3282f2 14 .l) 0x32845e 15 .l) 0x328791 17 (.n (.n .l 0x328c8b 18 .l) 0x32919a 12 .l))) 0x329686 22 (.n (.n (.n (.n .l 0x3296b0 23 .l) 0x329c1a 13 (.n .l 0x32a0ce 25 .l)) 0x32a383 11 (.n (.n .l 0x32a398 10 .l) 0x32a60e 24 .l)) 0x32b0b1 11 (.n (.n (.n .l 0x32b431 12 .l) 0x32bc42 15 .l) 0x32bc50 14 (.n (.n .l 0x32e053 12 .l) 0x32e213 13 .l))))) 0x32e4c1 14 (.n (.n (.n (.n (.n (.n .l 0x32e4c8 13 .l) 0x330353 15 (.n .l 0x3304cd 11 .l)) 0x33066a 18 (.n (.n .l 0x330a99 20 .l) 0x3310ab 17 .l)) 0x33142b 18 (.n (.n (.n .l 0x331ac2 15 .l) 0x331ad0 14 .l) 0x33205d 7 (.n (.n .l 0x33221d 8 .l) 0x332741 21 .l))) 0x332748 22 (.n (.n (.n (.n .l 0x33314a 16 .l) 0x333285 10 (.n .l 0x3332a8 9 .l)) 0x333a0a 17 (.n (.n .l 0x3350d1 20 .l) 0x335443 16 .l)) 0x335458 15 (.n (.n (.n .l 0x335611 19 .l) 0x3414f4 8 .l) 0x3417a2 19 (.n (.n .l 0x34189e 13 .l) 0x341d13 18 .l)))) 0x3422e6 18 (.n (.n (.n (.n (.n .l 0x342731 3 .l) 0x34298b 18 (.n .l 0x342c5c 23 .l)) 0x343394 19 (.n (.n .l 0x34350e 19 .l) 0x343872 8 .l)) 0x343ca1 18 (.n (.n (.n .l 0x3442b3 13 .l) 0x344599 24 .l) 0x344656 14 (.n (.n .l 0x344cca 13 .l) 0x34631a 18 .l))) 0x346463 19 (.n (.n (.n (.n .l 0x34668c 14 .l) 0x3468d1 19 (.n .l 0x3484f4 9 .l)) 0x3487a2 20 (.n (.n .l 0x34889e 12 .l) 0x348d13 17 .l)) 0x34a19c 25 (.n (.n (.n .l 0x34a706 1 .l) 0x34a730 2 .l) 0x34ac1c 24 (.n (.n .l 0x34b132 10 .l) 0x34b832 9 .l))))))) 0x34bc84 20 (.n (.n (.n (.n (.n (.n (.n (.n .l 0x34bca0 19 .l) 0x34c0d6 12 (.n .l 0x34c583 22 .l)) 0x34c598 23 (.n (.n .l 0x34c616 13 .l) 0x34e0a3 17 .l)) 0x34e423 18 (.n (.n (.n .l 0x34e8c2 21 .l) 0x34e8d0 20 (.n .l 0x3502e6 17 .l)) 0x350731 4 (.n (.n .l 0x35098b 17 .l) 0x350c5c 22 .l))) 0x35111e 15 (.n (.n (.n (.n .l 0x351784 21 .l) 0x3517a0 20 (.n .l 0x35181e 14 .l)) 0x3531a1 20 (.n (.n .l 0x353846 6 .l) 0x353870 7 .l)) 0x353c21 19 (.n (.n (.n .l 0x354073 15 .l) 0x354233 14 .l) 0x354cc1 15 (.n (.n .l 0x354cc8 14 .l) 0x3560cc 12 .l)))) 0x356303 20 (.n (.n (.n (.n (.n .l 0x356318 19 .l) 0x35660c 13 (.n .l 0x358394 18 .l)) 0x35850e 20 (.n (.n .l 0x358872 9 .l) 0x358ca1 17 .l)) 0x3590b4 10 (.n (.n (.n .l 0x359434 9 .l) 0x359d02 20 .l) 0x359d10 19 (.n (.n .l 0x35a066 20 .l) 0x35a226 19 .l))) 0x35a981 16 (.n (.n (.n (.n .l 0x35a988 17 .l) 0x35c18a 15 (.n .l 0x35c286 11 .l)) 0x35c2b0 12 (.n (.n .l 0x35cc0a 14 .l) 0x35e111 17 .l)) 0x35e444 17 (.n (.n (.n .l 0x35e460 18 .l) 0x35e811 18 .l) 0x3602b3 14 (.n (.n .l 0x360599 23 .l) 0x360656 15 .l))))) 0x360cca 12 (.n (.n (.n (.n (.n (.n .l 0x361193 20 .l) 0x3614c6 6 (.n .l 0x3614f0 7 .l)) 0x361c13 19 (.n (.n .l 0x3620f1 5 .l) 0x362631 4 .l)) 0x362c43 21 (.n (.n (.n .l 0x362c58 22 .l) 0x36308e 17 .l) 0x363382 17 (.n (.n .l 0x363390 18 .l) 0x36340e 18 .l))) 0x36605a 20 (.n (.n (.n (.n .l 0x36621a 19 .l) 0x366681 16 (.n .l 0x366688 15 .l)) 0x37031a 17 (.n (.n .l 0x370463 18 .l) 0x37068c 15 .l)) 0x3708d1 20 (.n (.n (.n .l 0x3710e2 17 .l) 0x371622 18 .l) 0x371883 15 (.n (.n .l 0x371898 14 .l) 0x37210b 20 .l)))) 0x3722c4 16 (.n (.n (.n (.n (.n .l 0x3722e0 17 .l) 0x37280b 19 (.n .l 0x373054 21 .l)) 0x373214 20 (.n (.n .l 0x373501 17 .l) 0x373508 18 .l)) 0x374099 22 (.n (.n (.n .l 0x374419 23 .l) 0x374642 16 .l) 0x374650 15 (.n (.n .l 0x38151d 13 .l) 0x381754 19 .l))) 0x3818ea 24 (.n (.n (.n (.n .l 0x381aa3 14 .l) 0x38232b 23 (.n .l 0x382665 18 .l)) 0x382959 18 (.n (.n .l 0x382acc 9 .l) 0x383362 19 .l)) 0x38346c 18 (.n (.n (.n .l 0x38388d 13 .l) 0x383b11 14 .l) 0x3842d5 12 (.n (.n .l 0x38454b 14 .l) 0x3846a9 19 .l)))))) 0x384a5a 19 (.n (.n (.n (.n (.n (.n (.n .l 0x38529c 18 .l) 0x3854e1 13 (.n .l 0x38570a 8 .l)) 0x385853 13 (.n (.n .l 0x38851d 12 .l) 0x388754 20 .l)) 0x3888ea 23 (.n (.n (.n .l 0x388aa3 15 .l) 0x38a0e5 20 (.n .l 0x38a625 19 .l)) 0x38a943 20 (.n (.n .l 0x38a958 19 .l) 0x38b0ac 20 .l))) 0x38b42c 19 (.n (.n (.n (.n .l 0x38bb02 12 .l) 0x38bb10 13 (.n .l 0x38c15a 17 .l)) 0x38c685 21 (.n (.n .l 0x38c6a8 20 .l) 0x38ca1a 18 .l)) 0x38d113 15 (.n (.n (.n .l 0x38d4c4 11 .l) 0x38d4e0 12 .l) 0x38d813 14 (.n (.n .l 0x39032b 22 .l) 0x390665 17 .l)))) 0x390959 17 (.n (.n (.n (.n (.n .l 0x390acc 10 .l) 0x391163 16 (.n .l 0x3918c5 26 .l)) 0x3918e8 25 (.n (.n .l 0x391a23 15 .l) 0x39310d 15 .l)) 0x393344 17 (.n (.n (.n .l 0x393360 18 .l) 0x39380d 14 .l) 0x3940e9 17 (.n (.n .l 0x394629 18 .l) 0x394a43 17 .l))) 0x394a58 18 (.n (.n (.n (.n .l 0x39505c 20 .l) 0x39521c 19 (.n .l 0x395701 6 .l)) 0x395708 7 (.n (.n .l 0x398362 18 .l) 0x39846c 17 .l)) 0x39888d 14 (.n (.n (.n .l 0x398b11 15 .l) 0x39912a 22 .l) 0x39982a 23 (.n (.n .l 0x399a84 12 .l) 0x399aa0 13 .l))))) 0x39a14c 11 (.n (.n (.n (.n (.n (.n .l 0x39a305 25 .l) 0x39a328 24 (.n .l 0x39aa0c 10 .l)) 0x39c055 14 (.n (.n .l 0x39c215 13 .l) 0x39c541 12 .l)) 0x39c548 13 (.n (.n (.n .l 0x39d0a1 15 .l) 0x39d421 14 .l) 0x39d842 11 (.n (.n .l 0x39d850 12 .l) 0x3a02d5 11 .l))) 0x3a054b 15 (.n (.n (.n (.n .l 0x3a06a9 18 .l) 0x3a0a5a 20 (.n .l 0x3a109d 15 .l)) 0x3a141d 14 (.n (.n .l 0x3a1742 17 .l) 0x3a1750 18 .l)) 0x3a206b 21 (.n (.n (.n .l 0x3a222b 22 .l) 0x3a2ac1 7 .l) 0x3a2ac8 8 (.n (.n .l 0x3a3151 16 .l) 0x3a3445 20 .l)))) 0x3a3468 19 (.n (.n (.n (.n (.n .l 0x3a3a11 15 .l) 0x3a50ca 10 (.n .l 0x3a5283 16 .l)) 0x3a5298 17 (.n (.n .l 0x3a560a 9 .l) 0x3a829c 17 .l)) 0x3a84e1 14 (.n (.n (.n .l 0x3a870a 9 .l) 0x3a8853 12 .l) 0x3a90d4 17 (.n (.n .l 0x3a9503 15 .l) 0x3a9518 14 .l))) 0x3a9614 18 (.n (.n (.n (.n .l 0x3aa119 20 .l) 0x3aa644 16 (.n .l 0x3aa660 17 .l)) 0x3aa819 19 (.n (.n .l 0x3ab062 17 .l) 0x3ab222 18 .l)) 0x3ab881 11 (.n (.n (.n .l 0x3ab888 12 .l) 0x3ac08b 16 .l) 0x3ac2c2 14 (.n (.n .l 0x3ac2d0 13 .l) 0x3ac40b 15 .l)))))))))
end Go.Eng

namespace Go.Eng

/-! ### Positions as numbers -/
def codeL : List Nat → Nat → Nat
  | [], c => c
  | d :: l, c => codeL l (c * 8 + d)
theorem codeL_inj : ∀ {l l' : List Nat} {c c' : Nat}, l.length = l'.length → (∀ x ∈ l, x < 8) → (∀ x ∈ l', x < 8) → codeL l c = codeL l' c' → c = c' ∧ l = l'
  | [], [], _, _, _, _, _, e => ⟨e, rfl⟩
  | [], _ :: _, _, _, h, _, _, _ => by cases h
  | _ :: _, [], _, _, h, _, _, _ => by cases h
  | d :: l, d' :: l', c, c', h, h1, h2, e => by
    obtain ⟨i1, i2⟩ := codeL_inj (l := l) (l' := l') (by simpa using h) (fun x hx => h1 x (List.mem_cons_of_mem _ hx)) (fun x hx => h2 x (List.mem_cons_of_mem _ hx)) e
    have a1 := h1 d (by simp)
    have a2 := h2 d' (by simp)
    have : d = d' := by omega
    exact ⟨by omega, by rw [this, i2]⟩
def swapL (l : List Nat) (x y : Nat) : List Nat := (l.set x (l.getD y 0)).set y (l.getD x 0)
def zL (l : List Nat) : Nat → Int := fun i => ((l.getD i 0 : Nat) : Int)
theorem zL_swap {l : List Nat} {x y : Nat} (hx : x < l.length) (hy : y < l.length) : zL (swapL l x y) = swapAt (zL l) x y := by
  funext i
  unfold zL swapL swapAt
  by_cases h1 : i = y
  · subst h1
    rw [if_pos rfl, List.getD_eq_getElem?_getD, List.getElem?_set_self (by simp; omega)]
    rfl
  · rw [if_neg h1, List.getD_eq_getElem?_getD, List.getElem?_set_ne (by omega)]
    by_cases h2 : i = x
    · subst h2
      rw [if_pos rfl, List.getElem?_set_self hx]
      rfl
    · rw [if_neg h2, List.getElem?_set_ne (by omega), ← List.getD_eq_getElem?_getD]
theorem zL_inj {l l' : List Nat} (h : l.length = l'.length) (e : zL l = zL l') : l = l' := by
  refine List.ext_getElem h fun i h1 h2 => ?_
  have := congrFun e i
  unfold zL at this
  rw [List.getD_eq_getElem?_getD, List.getD_eq_getElem?_getD, List.getElem?_eq_getElem h1, List.getElem?_eq_getElem h2] at this
  have this : ((l[i] : Nat) : Int) = ((l'[i] : Nat) : Int) := this
  omega
def lookT (c : Nat) : T2 → Option Nat
  | .l => none
  | .n a k d b => bif Nat.blt c k then lookT c a else bif Nat.beq c k then some d else lookT c b
def toL : T2 → List (Nat × Nat)
  | .l => []
  | .n a k d b => toL a ++ (k, d) :: toL b
theorem lookT_mem {c e : Nat} : ∀ {t : T2}, lookT c t = some e → (c, e) ∈ toL t
  | .l, h => by cases h
  | .n a k d b, h => by
    unfold lookT at h
    unfold toL
    rw [List.mem_append, List.mem_cons]
    cases h1 : Nat.blt c k with
    | true => rw [h1] at h; exact .inl (lookT_mem h)
    | false =>
      rw [h1] at h
      cases h2 : Nat.beq c k with
      | true =>
        rw [h2] at h
        injection h with h
        exact .inr (.inl (by rw [Nat.eq_of_beq_eq_true h2, h]))
      | false => rw [h2] at h; exact .inr (.inr (lookT_mem h))
def upB : Nat → List (Nat × Nat) → Bool
  | _, [] => true
  | x, y :: l => Nat.blt x y.1 && upB y.1 l
theorem upB_ok : ∀ {l : List (Nat × Nat)} {x : Nat}, upB x l = true → (∀ y ∈ l, x < y.1) ∧ (l.map (·.1)).Nodup
  | [], _, _ => ⟨by simp, by simp⟩
  | y :: l, x, h => by
    unfold upB at h
    rw [Bool.and_eq_true, Nat.blt_eq] at h
    obtain ⟨i1, i2⟩ := upB_ok h.2
    refine ⟨fun z hz => ?_, ?_⟩
    · rcases List.mem_cons.1 hz with rfl | hz
      · exact h.1
      · have := i1 z hz; omega
    · rw [List.map_cons]
      refine List.nodup_cons.2 ⟨fun hm => ?_, i2⟩
      obtain ⟨z, hz, e⟩ := List.mem_map.1 hm
      have := i1 z hz
      omega
def dig (c : Nat) : List Nat := digs 30 c []
def hole0 (l : List Nat) (q : Nat × Nat) : Bool := Nat.beq (l.getD q.1 0) 0 || Nat.beq (l.getD q.2 0) 0
def stepN (c : Nat) (q : Nat × Nat) : Nat := codeL (swapL (dig c) q.1 q.2) 1
def isD (o : Option Nat) (d : Nat) : Bool := match o with | some e => Nat.beq (e + 1) d | none => false
def oneOK (n : Nat) (E : List (Nat × Nat)) (t : T2) (c d : Nat) : Bool := (Nat.beq (codeL (dig c) 1) c && (Nat.beq (dig c).length n && (dig c).all fun x => Nat.blt x 8)) && ((E.all fun q => !hole0 (dig c) q || (lookT (stepN c q) t).isSome) && (Nat.beq c (codeL (List.range n) 1) || E.any fun q => hole0 (dig c) q && isD (lookT (stepN c q) t) d))
def allT (n : Nat) (E : List (Nat × Nat)) (t : T2) : T2 → Bool
  | .l => true
  | .n a k d b => allT n E t a && oneOK n E t k d && allT n E t b
theorem allT_ok {n : Nat} {E : List (Nat × Nat)} {t : T2} : ∀ {s : T2}, allT n E t s = true → ∀ y ∈ toL s, oneOK n E t y.1 y.2 = true
  | .l, _, y, hy => by cases hy
  | .n a k d b, h, y, hy => by
    unfold allT at h
    rw [Bool.and_eq_true, Bool.and_eq_true] at h
    unfold toL at hy
    rw [List.mem_append, List.mem_cons] at hy
    rcases hy with hy | rfl | hy
    · exact allT_ok h.1.1 y hy
    · exact h.1.2
    · exact allT_ok h.2 y hy
def closedOK (n : Nat) (E : List (Nat × Nat)) (t : T2) : Bool := ((lookT (codeL (List.range n) 1) t).isSome && upB 0 (toL t)) && allT n E t t

theorem closed_count {n : Nat} {E : List (Nat × Nat)} {t : T2} (hn : 2 ≤ n ∧ n ≤ 8) (hq : ∀ q ∈ E, q.1 < q.2 ∧ q.2 < n) (h : closedOK n E t = true) : CountOf (Reached E n (idF n)) (toL t).length := by
  unfold closedOK at h
  rw [Bool.and_eq_true, Bool.and_eq_true] at h
  obtain ⟨⟨h1, h2⟩, h3⟩ := h
  have nd := (upB_ok h2).2
  obtain ⟨c0, hc0⟩ : ∃ c, codeL (List.range n) 1 = c := ⟨_, rfl⟩
  rw [hc0] at h1
  have look : ∀ {c}, (lookT c t).isSome = true → ∃ d, lookT c t = some d ∧ (c, d) ∈ toL t := fun {c} hc => by
    obtain ⟨d, hd⟩ := Option.isSome_iff_exists.1 hc
    exact ⟨d, hd, lookT_mem hd⟩
  have one : ∀ y ∈ toL t, (codeL (dig y.1) 1 = y.1 ∧ (dig y.1).length = n ∧ ∀ x ∈ dig y.1, x < 8) ∧ (∀ q ∈ E, hole0 (dig y.1) q = true → ∃ d, (stepN y.1 q, d) ∈ toL t) ∧ (y.1 = c0 ∨ ∃ q ∈ E, hole0 (dig y.1) q = true ∧ ∃ d, d + 1 = y.2 ∧ (stepN y.1 q, d) ∈ toL t) := fun y hy => by
    have := allT_ok h3 y hy
    unfold oneOK at this
    rw [Bool.and_eq_true, Bool.and_eq_true, Bool.and_eq_true, Bool.and_eq_true, Bool.or_eq_true, List.all_eq_true, List.all_eq_true, List.any_eq_true] at this
    obtain ⟨⟨a1, a2, a3⟩, a4, a5⟩ := this
    refine ⟨⟨Nat.eq_of_beq_eq_true a1, Nat.eq_of_beq_eq_true a2, fun x hx => by have := a3 x hx; rwa [Nat.blt_eq] at this⟩, fun q hm hh => ?_, ?_⟩
    · have := a4 q hm
      rw [Bool.or_eq_true, hh] at this
      rcases this with this | this
      · cases this
      · obtain ⟨d, _, hd⟩ := look this
        exact ⟨d, hd⟩
    · rcases a5 with a5 | ⟨q, hm, hq2⟩
      · exact .inl (by rw [Nat.eq_of_beq_eq_true a5, hc0])
      · rw [Bool.and_eq_true] at hq2
        refine .inr ⟨q, hm, hq2.1, ?_⟩
        cases hl : lookT (stepN y.1 q) t with
        | none => rw [hl] at hq2; cases hq2.2
        | some d =>
          rw [hl] at hq2
          exact ⟨d, Nat.eq_of_beq_eq_true hq2.2, lookT_mem hl⟩
  obtain ⟨d0, _, hin0⟩ := look h1
  have e0 : zL (dig c0) = idF n := by
    have k := (one _ hin0).1
    have e : codeL (dig c0) 1 = codeL (List.range n) 1 := by rw [k.1, hc0]
    have := (codeL_inj (by rw [k.2.1]; simp) k.2.2 (fun x hx => by have := List.mem_range.1 hx; omega) e).2
    rw [this]
    funext i
    unfold zL idF
    by_cases hi : i < n
    · rw [if_pos hi, List.getD_eq_getElem?_getD, List.getElem?_range hi]; rfl
    · rw [if_neg hi, List.getD_eq_getElem?_getD, List.getElem?_eq_none (by simp; omega)]; rfl
  have st : ∀ y ∈ toL t, ∀ q ∈ E, ∀ d, (stepN y.1 q, d) ∈ toL t → zL (dig (stepN y.1 q)) = swapAt (zL (dig y.1)) q.1 q.2 := fun y hc q hm d hs => by
    obtain ⟨c, dc⟩ := y
    have k := (one _ hc).1
    have k2 := (one _ hs).1
    have hlt := hq q hm
    have hl : (swapL (dig c) q.1 q.2).length = n := by unfold swapL; simp [k.2.1]
    have h8 : ∀ x ∈ swapL (dig c) q.1 q.2, x < 8 := fun x hx => by
      unfold swapL at hx
      have g : ∀ i, (dig c).getD i 0 < 8 := fun i => by
        by_cases hi : i < (dig c).length
        · exact k.2.2 _ (getD_mem hi)
        · rw [List.getD_eq_getElem?_getD, List.getElem?_eq_none (by omega)]; exact (by decide : (0 : Nat) < 8)
      rcases List.mem_or_eq_of_mem_set hx with hx | hx
      · rcases List.mem_or_eq_of_mem_set hx with hx | hx
        · exact k.2.2 x hx
        · rw [hx]; exact g _
      · rw [hx]; exact g _
    have := (codeL_inj (l := dig (stepN c q)) (l' := swapL (dig c) q.1 q.2) (c := 1) (c' := 1) (by rw [k2.2.1, hl]) k2.2.2 h8 k2.1).2
    show zL (dig (stepN c q)) = swapAt (zL (dig c)) q.1 q.2
    have k21 : (dig c).length = n := k.2.1
    rw [this, zL_swap (by omega) (by omega)]
  have all : ∀ d c, (c, d) ∈ toL t → Reached E n (idF n) (zL (dig c)) := by
    intro d
    induction d with
    | zero =>
      intro c hc
      rcases (one _ hc).2.2 with e | ⟨q, _, _, d, hd, _⟩
      · have e : c = c0 := e
        rw [e, e0]; exact .refl
      · cases hd
    | succ d ih =>
      intro c hc
      rcases (one _ hc).2.2 with e | ⟨q, hm, h0, d', hd, hin⟩
      · have e : c = c0 := e
        rw [e, e0]; exact .refl
      · have hd : d' + 1 = d + 1 := hd
        have hd : d' = d := by omega
        subst hd
        have hlt := hq q hm
        have e : zL (dig (stepN c q)) = swapAt (zL (dig c)) q.1 q.2 := st _ hc q hm _ hin
        have rm : Reached E n (idF n) (zL (dig (stepN c q))) := ih _ hin
        have pm := rm.pos (idF_pos n)
        have hc2 : swapAt (zL (dig (stepN c q))) q.1 q.2 = zL (dig c) := by
          rw [e]; funext i; rw [swapAt_trn, swapAt_trn, trn_trn]
        have hc3 : swapAt (zL (dig (stepN c q))) q.2 q.1 = zL (dig c) := by
          rw [e]; exact swapAt_swap _ _ _
        have hn := nearB_adj (fun q hm => (hq q hm).1) (show Adj E q.1 q.2 from .inl hm)
        have h0 : hole0 (dig c) q = true := h0
        unfold hole0 at h0
        rw [Bool.or_eq_true] at h0
        rcases h0 with h0 | h0
        · have z2 : zL (dig (stepN c q)) q.2 = 0 := by
            rw [e]; unfold swapAt; rw [if_pos rfl]
            show (((dig c).getD q.1 0 : Nat) : Int) = 0
            rw [Nat.eq_of_beq_eq_true h0]; rfl
          rw [← hc3]
          exact rm.move ⟨pm, q.2, q.1, posZ_of (by omega) pm hlt.2 z2, by omega, by rw [nearB_comm]; exact hn, rfl⟩
        · have z1 : zL (dig (stepN c q)) q.1 = 0 := by
            rw [e]; unfold swapAt; rw [if_neg (by omega), if_pos rfl]
            show (((dig c).getD q.2 0 : Nat) : Int) = 0
            rw [Nat.eq_of_beq_eq_true h0]; rfl
          rw [← hc2]
          exact rm.move ⟨pm, q.1, q.2, posZ_of (by omega) pm (by omega) z1, hlt.2, hn, rfl⟩
  refine ⟨(toL t).map fun y => zL (dig y.1), ?_, fun z => ⟨fun hz => ?_, fun hz => ?_⟩, by simp⟩
  · rw [List.nodup_iff_pairwise_ne, List.pairwise_map]
    have nd' : (toL t).Pairwise fun a b => a.1 ≠ b.1 := by
      rw [List.nodup_iff_pairwise_ne, List.pairwise_map] at nd
      exact nd
    refine List.Pairwise.imp_of_mem ?_ nd'
    intro a b ha hb hab e
    have ka := (one a ha).1
    have kb := (one b hb).1
    have := zL_inj (by rw [ka.2.1, kb.2.1]) e
    exact hab (by rw [← ka.1, ← kb.1, this])
  · obtain ⟨c, hc, rfl⟩ := List.mem_map.1 hz
    exact all c.2 c.1 hc
  · obtain ⟨d, hd⟩ := hz
    have hw := hd.1
    clear hd
    induction hw with
    | zero => exact List.mem_map.2 ⟨_, hin0, e0⟩
    | step _ e ih =>
      obtain ⟨y, hc, hz⟩ := List.mem_map.1 ih
      obtain ⟨hp, a, t, g1, g2, g3, rfl⟩ := e
      have ad := near_adj g3
      have hza : (dig y.1).getD a 0 = 0 := by
        have := g1.zero
        rw [← hz] at this
        have : (((dig y.1).getD a 0 : Nat) : Int) = 0 := this
        omega
      rcases ad with ad | ad
      · obtain ⟨d, hs⟩ := (one y hc).2.1 _ ad (by unfold hole0; rw [hza]; rfl)
        refine List.mem_map.2 ⟨_, hs, ?_⟩
        rw [← hz]
        exact st y hc _ ad _ hs
      · obtain ⟨d, hs⟩ := (one y hc).2.1 _ ad (by unfold hole0; rw [hza]; simp)
        refine List.mem_map.2 ⟨_, hs, ?_⟩
        rw [← hz]
        refine (st y hc _ ad _ hs).trans ?_
        funext i
        rw [swapAt_trn, swapAt_trn, trn_comm]

/-! ### Boards that are alike -/
structure Iso (qs qs' : List (Nat × Nat)) (N : Nat) (f : Nat → Nat) : Prop where
  bij : Bij f N
  adj : ∀ x y, x < N → y < N → (Adj qs (f x) (f y) ↔ Adj qs' x y)
theorem Bij.inverse {f : Nat → Nat} {N : Nat} (h : Bij f N) : ∃ g, Bij g N ∧ (∀ x, x < N → g (f x) = x) ∧ ∀ y, y < N → f (g y) = y := by
  classical
  let g : Nat → Nat := fun y => if h' : y < N then Classical.choose (h.onto h') else 0
  have hg : ∀ y, y < N → g y < N ∧ f (g y) = y := fun y hy => by
    have := Classical.choose_spec (h.onto hy)
    show (if h' : y < N then Classical.choose (h.onto h') else 0) < N ∧ f (if h' : y < N then Classical.choose (h.onto h') else 0) = y
    rw [dif_pos hy]
    exact this
  refine ⟨g, ⟨fun y hy => (hg y hy).1, fun x y hx hy e => ?_⟩, fun x hx => h.inj _ _ (hg _ (h.lt x hx)).1 hx (hg _ (h.lt x hx)).2, fun y hy => (hg y hy).2⟩
  rw [← (hg x hx).2, ← (hg y hy).2, e]
def pull (N : Nat) (f : Nat → Nat) (z : Nat → Int) : Nat → Int := fun i => if i < N then z (f i) else 0
section
variable {qs qs' : List (Nat × Nat)} {N : Nat} {f g : Nat → Nat}
theorem pull_pos (hf : Bij f N) {z : Nat → Int} (hz : Pos N z) : Pos N (pull N f z) := by
  refine ⟨fun i hi => ?_, fun i => ?_, fun i hi => ?_, fun i j hi hj e => ?_⟩
  · unfold pull; rw [if_neg (by omega)]
  · unfold pull; split
    · exact hz.lo _
    · decide
  · unfold pull; rw [if_pos hi]; exact hz.hi _ (hf.lt i hi)
  · unfold pull at e; rw [if_pos hi, if_pos hj] at e
    exact hf.inj i j hi hj (hz.inj _ _ (hf.lt i hi) (hf.lt j hj) e)
theorem pull_pull (hf : Bij f N) (hg : Bij g N) (h : ∀ i, i < N → f (g i) = i) {z : Nat → Int} (hz : Pos N z) : pull N g (pull N f z) = z := by
  refine (pull_pos hg (pull_pos hf hz)).ext hz fun i hi => ?_
  unfold pull
  rw [if_pos hi, if_pos (hg.lt i hi), h i hi]
theorem pull_mov (hN : N ≤ 100) (hq : ∀ q ∈ qs, q.1 < q.2 ∧ q.2 < N) (hq' : ∀ q ∈ qs', q.1 < q.2 ∧ q.2 < N) (k : Iso qs qs' N f) {z z' : Nat → Int} (h : Mov qs N z z') : Mov qs' N (pull N f z) (pull N f z') := by
  obtain ⟨hz, a, t, h1, h2, h3, rfl⟩ := h
  obtain ⟨x, hx, rfl⟩ := k.bij.onto h1.lt
  obtain ⟨y, hy, rfl⟩ := k.bij.onto h2
  have e := (k.adj x y hx hy).1 (near_adj h3)
  have hp := pull_pos k.bij hz
  have h0 : pull N f z x = 0 := by unfold pull; rw [if_pos hx]; exact h1.zero
  refine ⟨hp, x, y, posZ_of hN hp hx h0, hy, nearB_adj (fun q hm => (hq' q hm).1) e, ?_⟩
  have pl : ∀ j, j < N → pull N f z j = z (f j) := fun j hj => if_pos hj
  have po : ∀ j, ¬ j < N → pull N f z j = 0 := fun j hj => if_neg hj
  funext i
  show (if i < N then swapAt z (f x) (f y) (f i) else 0) = if i = y then pull N f z x else if i = x then pull N f z y else pull N f z i
  rw [pl x hx, pl y hy]
  by_cases hi : i < N
  · rw [if_pos hi, pl i hi]
    unfold swapAt
    by_cases g1 : i = y
    · subst g1; rw [if_pos rfl, if_pos rfl]
    · rw [if_neg g1, if_neg (fun e => g1 (k.bij.inj i y hi hy e))]
      by_cases g2 : i = x
      · subst g2; rw [if_pos rfl, if_pos rfl]
      · rw [if_neg g2, if_neg (fun e => g2 (k.bij.inj i x hi hx e))]
  · rw [if_neg hi, if_neg (by omega), if_neg (by omega), po i hi]
theorem pull_reached (hN : N ≤ 100) (hq : ∀ q ∈ qs, q.1 < q.2 ∧ q.2 < N) (hq' : ∀ q ∈ qs', q.1 < q.2 ∧ q.2 < N) (k : Iso qs qs' N f) {z z' : Nat → Int} (h : Reached qs N z z') : Reached qs' N (pull N f z) (pull N f z') := by
  obtain ⟨d, h⟩ := h
  have hw := h.1
  clear h
  induction hw with
  | zero => exact .refl
  | step _ e ih => exact ih.trans (.wlk (.step .zero (pull_mov hN hq hq' k e)))
theorem iso_count {ps ps' : List (Int × Int)} (hN : 2 ≤ N ∧ N ≤ 9) (hb : IsBoard N ps) (hb' : IsBoard N ps') (k : Iso (nats ps) (nats ps') N f) {c c' : Nat} (h : CountOf (Reached (nats ps) N (idF N)) c) (h' : CountOf (Reached (nats ps') N (idF N)) c') : c = c' := by
  have hq := nats_mem hb.1
  have hq' := nats_mem hb'.1
  obtain ⟨g, hg, e1, e2⟩ := k.bij.inverse
  have k' : Iso (nats ps') (nats ps) N g := ⟨hg, fun x y hx hy => by
    have := k.adj (g x) (g y) (hg.lt x hx) (hg.lt y hy)
    rw [e2 x hx, e2 y hy] at this
    exact this.symm⟩
  have hp := pull_pos k.bij (idF_pos N)
  refine count_same hN hb' hp (CountOf.map (pull N f) (pull N g) h (fun q hq1 => ?_) fun q hq1 => ?_) h'
  · exact ⟨pull_reached (by omega) hq hq' k hq1, pull_pull k.bij hg e2 (hq1.pos (idF_pos N))⟩
  · refine ⟨?_, pull_pull hg k.bij e1 (hq1.pos hp)⟩
    have := pull_reached (by omega) hq' hq k' hq1
    rw [pull_pull k.bij hg e2 (idF_pos N)] at this
    exact this
theorem adjC_iff {E : List (Nat × Nat)} {a b : Nat} : adjC E a b = true ↔ Adj E a b := by
  unfold adjC
  rw [List.any_eq_true]
  constructor
  · rintro ⟨q, hq, h⟩
    rw [Bool.or_eq_true, Bool.and_eq_true, Bool.and_eq_true] at h
    rcases h with ⟨e1, e2⟩ | ⟨e1, e2⟩
    · exact .inl (by rw [← Nat.eq_of_beq_eq_true e1, ← Nat.eq_of_beq_eq_true e2]; exact hq)
    · exact .inr (by rw [← Nat.eq_of_beq_eq_true e1, ← Nat.eq_of_beq_eq_true e2]; exact hq)
  · rintro (h | h)
    · exact ⟨_, h, by simp⟩
    · exact ⟨_, h, by simp⟩
def sameB (E E' : List (Nat × Nat)) (p : Nat → Nat) (n : Nat) : Bool := ((List.range n).all fun x => Nat.blt (p x) n && (List.range n).all fun y => (Nat.beq x y || !Nat.beq (p x) (p y)) && (adjC E (p x) (p y) == adjC E' x y))
/-- A board that is alike to a small one, whose positions are known. -/
theorem exact_count {ps : List (Int × Int)} {E E' : List (Nat × Nat)} {p : Nat → Nat} {t : T2} (hN : 2 ≤ N ∧ N ≤ 8) (hb : IsBoard N ps) (k : Exact (nats ps) N E f) (hs : sameB E E' p N = true) (hg : gridB N E' = true) (hc : closedOK N E' t = true) {a b c : Nat} (h : Bfs (Mov (nats ps) N) (idF N) a b c) : a = (toL t).length := by
  have hb' := gridB_board (by omega) hg
  have hn : nats (ints E') = E' := nats_ints E'
  have hq' := nats_mem hb'.1
  rw [hn] at hq'
  unfold sameB at hs
  rw [List.all_eq_true] at hs
  have s1 : ∀ x, x < N → p x < N := fun x hx => by
    have := hs x (List.mem_range.2 hx)
    rw [Bool.and_eq_true, Nat.blt_eq] at this
    exact this.1
  have s2 : ∀ x y, x < N → y < N → (x = y ∨ p x ≠ p y) ∧ adjC E (p x) (p y) = adjC E' x y := fun x y hx hy => by
    have := hs x (List.mem_range.2 hx)
    rw [Bool.and_eq_true, List.all_eq_true] at this
    have := this.2 y (List.mem_range.2 hy)
    rw [Bool.and_eq_true, Bool.or_eq_true, Bool.not_eq_true'] at this
    refine ⟨this.1.elim (fun e => .inl (Nat.eq_of_beq_eq_true e)) fun e => .inr fun q => by rw [q] at e; simp at e, by simpa using this.2⟩
  have hbij : Bij (fun x => f (p x)) N := ⟨fun x hx => k.emb.lt _ (s1 x hx), fun x y hx hy e => by
    have := k.emb.inj _ _ (s1 x hx) (s1 y hy) e
    exact (s2 x y hx hy).1.elim id fun q => absurd this q⟩
  have iso : Iso (nats ps) (nats (ints E')) N (fun x => f (p x)) := ⟨hbij, fun x y hx hy => by
    have e := (s2 x y hx hy).2
    rw [hn]
    exact ⟨fun h => adjC_iff.1 (by rw [← e]; exact k.all _ _ (s1 x hx) (s1 y hy) h), fun h => k.emb.near (by rw [e]; exact adjC_iff.2 h)⟩⟩
  have h' := closed_count hN hq' hc
  obtain ⟨L', hL', rfl⟩ := h.all
  rw [← hn] at h'
  exact iso_count (by omega) hb hb' iso ⟨L', hL'.1, hL'.2, rfl⟩ h'
end

end Go.Eng

namespace Go.Eng

/-! ### The ring, and the board of seven places -/
theorem ring3_ok : closedOK 3 [(0, 1), (0, 2), (1, 2)] ringT3 = true := by kernel_rfl
theorem ring4_ok : closedOK 4 [(0, 1), (0, 3), (1, 2), (2, 3)] ringT4 = true := by kernel_rfl
theorem ring5_ok : closedOK 5 [(0, 1), (0, 4), (1, 2), (2, 3), (3, 4)] ringT5 = true := by kernel_rfl
theorem ring6_ok : closedOK 6 [(0, 1), (0, 5), (1, 2), (2, 3), (3, 4), (4, 5)] ringT6 = true := by kernel_rfl
theorem ring7_ok : closedOK 7 [(0, 1), (0, 6), (1, 2), (2, 3), (3, 4), (4, 5), (5, 6)] ringT7 = true := by kernel_rfl
theorem ring8_ok : closedOK 8 [(0, 1), (0, 7), (1, 2), (2, 3), (3, 4), (4, 5), (5, 6), (6, 7)] ringT8 = true := by kernel_rfl
/-- On a ring the size is one less than the places. -/
theorem ring_size {N : Nat} {ps : List (Int × Int)} {f : Nat → Nat} (hN : 3 ≤ N ∧ N ≤ 8) (hb : IsBoard N ps) (k : Exact (nats ps) N (leg 0 1 (N - 1) 0) f) {a b c : Nat} (h : Bfs (Mov (nats ps) N) (idF N) a b c) : a / N = N - 1 := by
  have : N = 3 ∨ N = 4 ∨ N = 5 ∨ N = 6 ∨ N = 7 ∨ N = 8 := by omega
  rcases this with rfl | rfl | rfl | rfl | rfl | rfl
  · have s : sameB (leg 0 1 (3 - 1) 0) [(0, 1), (0, 2), (1, 2)] id 3 = true := by kernel_rfl
    have g : gridB 3 [(0, 1), (0, 2), (1, 2)] = true := by kernel_rfl
    rw [exact_count (by omega) hb k s g ring3_ok h]
    have e : (toL ringT3).length = 3 * (3 - 1) := by kernel_rfl
    rw [e]
  · have s : sameB (leg 0 1 (4 - 1) 0) [(0, 1), (0, 3), (1, 2), (2, 3)] id 4 = true := by kernel_rfl
    have g : gridB 4 [(0, 1), (0, 3), (1, 2), (2, 3)] = true := by kernel_rfl
    rw [exact_count (by omega) hb k s g ring4_ok h]
    have e : (toL ringT4).length = 4 * (4 - 1) := by kernel_rfl
    rw [e]
  · have s : sameB (leg 0 1 (5 - 1) 0) [(0, 1), (0, 4), (1, 2), (2, 3), (3, 4)] id 5 = true := by kernel_rfl
    have g : gridB 5 [(0, 1), (0, 4), (1, 2), (2, 3), (3, 4)] = true := by kernel_rfl
    rw [exact_count (by omega) hb k s g ring5_ok h]
    have e : (toL ringT5).length = 5 * (5 - 1) := by kernel_rfl
    rw [e]
  · have s : sameB (leg 0 1 (6 - 1) 0) [(0, 1), (0, 5), (1, 2), (2, 3), (3, 4), (4, 5)] id 6 = true := by kernel_rfl
    have g : gridB 6 [(0, 1), (0, 5), (1, 2), (2, 3), (3, 4), (4, 5)] = true := by kernel_rfl
    rw [exact_count (by omega) hb k s g ring6_ok h]
    have e : (toL ringT6).length = 6 * (6 - 1) := by kernel_rfl
    rw [e]
  · have s : sameB (leg 0 1 (7 - 1) 0) [(0, 1), (0, 6), (1, 2), (2, 3), (3, 4), (4, 5), (5, 6)] id 7 = true := by kernel_rfl
    have g : gridB 7 [(0, 1), (0, 6), (1, 2), (2, 3), (3, 4), (4, 5), (5, 6)] = true := by kernel_rfl
    rw [exact_count (by omega) hb k s g ring7_ok h]
    have e : (toL ringT7).length = 7 * (7 - 1) := by kernel_rfl
    rw [e]
  · have s : sameB (leg 0 1 (8 - 1) 0) [(0, 1), (0, 7), (1, 2), (2, 3), (3, 4), (4, 5), (5, 6), (6, 7)] id 8 = true := by kernel_rfl
    have g : gridB 8 [(0, 1), (0, 7), (1, 2), (2, 3), (3, 4), (4, 5), (5, 6), (6, 7)] = true := by kernel_rfl
    rw [exact_count (by omega) hb k s g ring8_ok h]
    have e : (toL ringT8).length = 8 * (8 - 1) := by kernel_rfl
    rw [e]
def sevenQ : List (Nat × Nat) := [(0, 2), (0, 3), (0, 5), (1, 2), (1, 4), (1, 6), (3, 4), (5, 6)]
theorem seven_ok : closedOK 7 [(0, 2), (0, 3), (0, 5), (1, 2), (1, 4), (1, 6), (3, 4), (5, 6)] sevenT = true := by kernel_rfl
def perm212 : Nat → Nat := fun x => [0, 1, 4, 2, 3, 5, 6].getD x 0
def perm221 : Nat → Nat := fun x => [0, 1, 6, 2, 3, 4, 5].getD x 0
/-- On the board of seven places the size is 120. -/
theorem seven_size {ps : List (Int × Int)} {f : Nat → Nat} {x y z : Nat} (h122 : is122 x y z = true) (hb : IsBoard 7 ps) (k : Exact (nats ps) 7 (thetaE x y z) f) {a b c : Nat} (h : Bfs (Mov (nats ps) 7) (idF 7) a b c) : a / 7 = 120 := by
  have g : gridB 7 [(0, 2), (0, 3), (0, 5), (1, 2), (1, 4), (1, 6), (3, 4), (5, 6)] = true := by kernel_rfl
  have e : (toL sevenT).length = 840 := by kernel_rfl
  have hc := is122_cases h122
  simp only [List.mem_cons, List.mem_nil_iff, or_false, Prod.mk.injEq] at hc
  rcases hc with ⟨rfl, rfl, rfl⟩ | ⟨rfl, rfl, rfl⟩ | ⟨rfl, rfl, rfl⟩
  · have s : sameB (thetaE 1 2 2) [(0, 2), (0, 3), (0, 5), (1, 2), (1, 4), (1, 6), (3, 4), (5, 6)] id 7 = true := by kernel_rfl
    rw [exact_count (by omega) hb k s g seven_ok h, e]
  · have s : sameB (thetaE 2 1 2) [(0, 2), (0, 3), (0, 5), (1, 2), (1, 4), (1, 6), (3, 4), (5, 6)] perm212 7 = true := by kernel_rfl
    rw [exact_count (by omega) hb k s g seven_ok h, e]
  · have s : sameB (thetaE 2 2 1) [(0, 2), (0, 3), (0, 5), (1, 2), (1, 4), (1, 6), (3, 4), (5, 6)] perm221 7 = true := by kernel_rfl
    rw [exact_count (by omega) hb k s g seven_ok h, e]
end Go.Eng

namespace Go.Eng

section
variable {N : Nat} {ps : List (Int × Int)}
theorem ringDeg_ok : ((List.range 9).all fun m => Nat.blt m 3 || (List.range m).all fun x => Nat.beq (degC (leg 0 1 (m - 1) 0) m x) 2) = true := by kernel_rfl
/-- Where each place has two neighbours, the board is a ring. -/
theorem ring_exact (hN : N ≤ 8) (hb : IsBoard N ps) (hw : WholeP N ps) (h2 : ∀ v, v < N → (nbL (nats ps) v).length = 2) : ∃ f, Exact (nats ps) N (leg 0 1 (N - 1) 0) f := by
  have hq := nats_mem hb.1
  have h3 := hw.1
  obtain ⟨a, b, ea, eb, hab⟩ := two_near hb hw (v := 0) (by omega)
  have na := adj_ne hq ea
  have nb := adj_ne hq eb
  have hsym : ∀ a b, AdjBut (nats ps) ((0 : Nat) : Int) a b → AdjBut (nats ps) ((0 : Nat) : Int) b a := fun a b h => ⟨adj_symm h.1, h.2.2, h.2.1⟩
  have hr : Rch (AdjBut (nats ps) ((0 : Nat) : Int)) a b := ((hw.2 0 (by omega) a na.2.1 (by have := na.2.2; omega)).sy hsym).tr (hw.2 0 (by omega) b nb.2.1 (by have := nb.2.2; omega))
  obtain ⟨P, hP1, hP2, hP3⟩ := hr.way
  have cP : chn (Adj (nats ps)) 0 (a :: P) := ⟨ea, chn_mono (fun _ _ h => h.1) hP1⟩
  have hl : lastOf 0 (a :: P) = b := hP2
  have lg : Leg (Adj (nats ps)) 0 (a :: P) 0 := (chn_split (chn_snoc cP (by rw [hl]; exact adj_symm eb))).1
  have hpu : ∀ x ∈ a :: P, x ≠ 0 ∧ x < N := fun x hx => by
    rcases List.mem_cons.1 hx with rfl | hx
    · exact ⟨Ne.symm na.2.2, na.2.1⟩
    · exact chn_all (P := fun x => x ≠ 0 ∧ x < N) (fun a b h => ⟨by have := h.2.2; omega, (adj_ne hq h.1).2.1⟩) hP1 x hx
  have hnd : (0 :: a :: P).Nodup := List.nodup_cons.2 ⟨fun hm => (hpu 0 hm).1 rfl, hP3⟩
  have hPl : 0 < P.length := by
    cases P with
    | nil => exact absurd hP2 hab
    | cons => simp
  have hlt : ∀ x ∈ 0 :: a :: P, x < N := fun x hx => by
    rcases List.mem_cons.1 hx with rfl | hx
    · omega
    · exact (hpu x hx).2
  have hsm : P.length + 2 ≤ N := by
    have := nodup_len (M := List.range N) hnd fun x hx => List.mem_range.2 (hlt x hx)
    simpa using this
  have emb : Emb (nats ps) N (leg 0 1 (P.length + 2 - 1) 0) (P.length + 2) (fun i => (0 :: a :: P).getD i 0) := by
    refine ⟨fun i hi => hlt _ (getD_mem (by simpa using hi)), fun i j hi hj e => nodup_getD hnd (by simpa using hi) (by simpa using hj) e, fun q hm => ?_⟩
    refine leg_adj (E := Adj (nats ps)) (f := fun i => (0 :: a :: P).getD i 0) (l := a :: P) (p := 0) (s := 1) (e := 0) lg (fun j hj => ?_) q hm
    show (0 :: a :: P).getD (1 + j) 0 = (a :: P).getD j 0
    rw [Nat.add_comm]
    rfl
  have hd : ∀ x, x < P.length + 2 → (nbL (nats ps) ((0 :: a :: P).getD x 0)).length ≤ degC (leg 0 1 (P.length + 2 - 1) 0) (P.length + 2) x := fun x hx => by
    have h1 := List.all_eq_true.1 ringDeg_ok (P.length + 2) (List.mem_range.2 (by omega))
    rw [Bool.or_eq_true, Nat.blt_eq, List.all_eq_true] at h1
    rcases h1 with h1 | h1
    · omega
    · rw [Nat.eq_of_beq_eq_true (h1 x (List.mem_range.2 hx)), h2 _ (hlt _ (getD_mem (by simpa using hx)))]
      exact Nat.le_refl _
  obtain ⟨e, k⟩ := exact_of hb emb (by omega) hd
  rw [← e] at k
  exact ⟨_, k⟩

/-- The law's test for the board of seven places. -/
def SevenP (N : Nat) (qs : List (Nat × Nat)) : Prop := N = 7 ∧ qs.length = 8 ∧ (∀ i, i < 7 → (nbL qs i).length = 3 ∨ (nbL qs i).length = 2) ∧
  ∃ s t, (List.range 7).filter (fun i => decide ((nbL qs i).length = 3)) = [s, t] ∧ t ∉ nbL qs s ∧ ((nbL qs s).filter fun k => decide (t ∈ nbL qs k)).length = 1
theorem deg_ge {qs : List (Nat × Nat)} {m : Nat} {E : List (Nat × Nat)} {f : Nat → Nat} (hq : ∀ q ∈ qs, q.1 < q.2 ∧ q.2 < N) (k : Emb qs N E m f) (x : Nat) : degC E m x ≤ (nbL qs (f x)).length := by
  have := nodup_len (M := nbL qs (f x)) (imgs k (P := adjC E x)) fun u hu => by
    obtain ⟨z, hz, rfl⟩ := List.mem_map.1 hu
    exact (nbL_mem hq).2 (k.near (List.mem_filter.1 hz).2)
  unfold degC
  simpa using this
theorem thetaDeg_ok : thetaPair (fun a b c => (List.range (a + b + c + 2)).all fun x => Nat.beq (degC (thetaE a b c) (a + b + c + 2) x) (bif Nat.blt x 2 then 3 else 2)) = true := by kernel_rfl
def comC (E : List (Nat × Nat)) (m x y : Nat) : Nat := ((List.range m).filter fun z => adjC E x z && adjC E z y).length
theorem theta122_ok : thetaPair (fun a b c => !Nat.beq (a + b + c) 5 || (adjC (thetaE a b c) 0 1 || !Nat.beq (comC (thetaE a b c) 7 0 1) 1) || is122 a b c) = true := by kernel_rfl
theorem common {qs : List (Nat × Nat)} {E : List (Nat × Nat)} {f : Nat → Nat} (hn : qs.Nodup) (hq : ∀ q ∈ qs, q.1 < q.2 ∧ q.2 < N) (k : Exact qs N E f) {x y : Nat} (hx : x < N) (hy : y < N) : ((nbL qs (f x)).filter fun z => decide (f y ∈ nbL qs z)).length = comC E N x y := by
  have hon : ∀ i, i < N → ∃ x, x < N ∧ f x = i := fun i hi => k.onto.onto hi
  have := nodup_same (L := (nbL qs (f x)).filter fun z => decide (f y ∈ nbL qs z)) (M := ((List.range N).filter fun z => adjC E x z && adjC E z y).map f) ((nbL_nodup hn hq _).filter _) (imgs k.emb) fun u => by
    rw [List.mem_filter, decide_eq_true_eq, nbL_mem hq, nbL_mem hq]
    constructor
    · rintro ⟨h1, h2⟩
      obtain ⟨z, hz, rfl⟩ := hon u (adj_ne hq h1).2.1
      refine List.mem_map.2 ⟨z, List.mem_filter.2 ⟨List.mem_range.2 hz, ?_⟩, rfl⟩
      rw [k.all x z hx hz h1, k.all z y hz hy h2]
      rfl
    · intro h
      obtain ⟨z, hz, rfl⟩ := List.mem_map.1 h
      have := (List.mem_filter.1 hz).2
      rw [Bool.and_eq_true] at this
      exact ⟨k.emb.near this.1, k.emb.near this.2⟩
  rw [this]
  simp [comC]
theorem seven_exact (hb : IsBoard N ps) (hw : WholeP N ps) (h : SevenP N (nats ps)) : N = 7 ∧ ∃ a b c f, is122 a b c = true ∧ Exact (nats ps) N (thetaE a b c) f := by
  have hq := nats_mem hb.1
  have hn := edges_nodup hb.1
  obtain ⟨rfl, _, hd, s, t, hst, hno, hc⟩ := h
  have hin : ∀ i, i ∈ [s, t] ↔ i < 7 ∧ (nbL (nats ps) i).length = 3 := fun i => by
    rw [← hst, List.mem_filter, List.mem_range, decide_eq_true_eq]
  have hs := (hin s).1 (by simp)
  obtain ⟨a, b, c, ea, eb, ec, nab, nac, nbc⟩ := three_near hb (v := s) (by omega)
  obtain ⟨w, l1, l2, l3, ht⟩ := theta_ex hb hw.2 ea eb ec nab nac nbc
  have hk := ht.emb
  have hsm := ht.small
  have hfew := ht.few
  have f0 : thetaF s w l1 l2 l3 0 = s := rfl
  have f1 : thetaF s w l1 l2 l3 1 = w := rfl
  obtain ⟨a, ha⟩ : ∃ a, l1.length = a := ⟨_, rfl⟩
  obtain ⟨b, hb'⟩ : ∃ b, l2.length = b := ⟨_, rfl⟩
  obtain ⟨c, hc'⟩ : ∃ c, l3.length = c := ⟨_, rfl⟩
  obtain ⟨f, hf⟩ : ∃ f, thetaF s w l1 l2 l3 = f := ⟨_, rfl⟩
  rw [ha, hb', hc'] at hk hsm hfew
  rw [hf] at hk f0 f1
  clear hf ha hb' hc' ht
  have hdc : ∀ x, x < a + b + c + 2 → degC (thetaE a b c) (a + b + c + 2) x = bif Nat.blt x 2 then 3 else 2 := fun x hx => by
    have := thetaPair_get thetaDeg_ok hfew (by omega)
    exact Nat.eq_of_beq_eq_true (List.all_eq_true.1 this x (List.mem_range.2 hx))
  have hw3 : (nbL (nats ps) w).length = 3 := by
    have h1 := deg_ge hq hk 1
    have e1 : degC (thetaE a b c) (a + b + c + 2) 1 = 3 := hdc 1 (by omega)
    rw [f1, e1] at h1
    have := hd w (by rw [← f1]; exact hk.lt 1 (by omega))
    omega
  have hws : w ≠ s := fun e => by have := hk.inj 1 0 (by omega) (by omega) (by rw [f0, f1, e]); omega
  have hwt : w = t := by
    have := (hin w).2 ⟨by rw [← f1]; exact hk.lt 1 (by omega), hw3⟩
    simp [hws] at this
    exact this
  have hdeg : ∀ x, x < a + b + c + 2 → (nbL (nats ps) (f x)).length ≤ degC (thetaE a b c) (a + b + c + 2) x := fun x hx => by
    rw [hdc x hx]
    have h7 := hk.lt x hx
    by_cases h2 : x < 2
    · have : Nat.blt x 2 = true := by rw [Nat.blt_eq]; exact h2
      rw [this]
      show _ ≤ 3
      have := hd _ h7
      omega
    · have e2 : Nat.blt x 2 = false := by
        cases h : Nat.blt x 2 with
        | false => rfl
        | true => rw [Nat.blt_eq] at h; exact absurd h h2
      rw [e2]
      show _ ≤ 2
      have hne : (nbL (nats ps) (f x)).length ≠ 3 := fun e => by
        have := (hin (f x)).2 ⟨h7, e⟩
        simp at this
        rcases this with e | e
        · have := hk.inj x 0 hx (by omega) (by rw [f0, e]); omega
        · have := hk.inj x 1 hx (by omega) (by rw [f1, hwt, e]); omega
      have := hd _ h7
      omega
  obtain ⟨e7, k⟩ := exact_of hb hk (by omega) hdeg
  refine ⟨rfl, a, b, c, f, ?_, k⟩
  have h5 := thetaPair_get theta122_ok hfew (by omega)
  rw [Bool.or_eq_true, Bool.or_eq_true, Bool.or_eq_true] at h5
  rcases h5 with (h5 | h5 | h5) | h5
  · rw [show a + b + c = 5 by omega] at h5; cases h5
  · have := k.emb.near h5
    rw [f0, f1, hwt] at this
    exact absurd ((nbL_mem hq).2 this) hno
  · have := common hn hq k (x := 0) (y := 1) (by omega) (by omega)
    rw [f0, f1, hwt, hc] at this
    rw [← this] at h5
    cases h5
  · exact h5

theorem sumN_one {a : Nat} : ∀ {n : Nat}, a < n → sumN (fun v => if a = v then 1 else 0) n = 1
  | n + 1, h => by
    show sumN (fun v => if a = v then 1 else 0) n + (if a = n then 1 else 0) = 1
    by_cases e : a = n
    · subst e
      have : sumN (fun v => if a = v then 1 else 0) a = 0 := (sumN_congr (k := fun _ => 0) fun i hi => if_neg (by omega)).trans (sumN_zero a)
      rw [this, if_pos rfl]
    · rw [sumN_one (n := n) (by omega), if_neg e]
theorem deg_sum : ∀ {qs : List (Nat × Nat)}, (∀ q ∈ qs, q.1 < q.2 ∧ q.2 < N) → sumN (fun v => (nbL qs v).length) N = 2 * qs.length
  | [], _ => by
    show sumN (fun _ => 0) N = 0
    exact sumN_zero N
  | q :: r, h => by
    have ih := deg_sum (qs := r) fun x hx => h x (List.mem_cons_of_mem _ hx)
    have hq := h q (by simp)
    have e : ∀ v, (nbL (q :: r) v).length = ((if q.1 = v then 1 else 0) + (if q.2 = v then 1 else 0)) + (nbL r v).length := fun v => by
      rw [nbL_cons, List.length_append]
      by_cases h1 : q.1 = v
      · rw [if_pos h1, if_pos h1, if_neg (by omega)]; rfl
      · by_cases h2 : q.2 = v
        · rw [if_neg h1, if_pos h2, if_neg h1, if_pos h2]; rfl
        · rw [if_neg h1, if_neg h2, if_neg h1, if_neg h2]; rfl
    rw [sumN_congr (k := fun v => ((if q.1 = v then 1 else 0) + (if q.2 = v then 1 else 0)) + (nbL r v).length) fun v _ => e v, sumN_add, sumN_add, sumN_one (by omega), sumN_one (by omega), ih, List.length_cons]
    omega
def deg122 (a b c : Nat) : Bool := (Nat.beq (sumN (fun x => degC (thetaE a b c) 7 x) 7) 16 && !adjC (thetaE a b c) 0 1) && (Nat.beq (comC (thetaE a b c) 7 0 1) 1 && Nat.beq (comC (thetaE a b c) 7 1 0) 1) && (List.range 7).all fun x => Nat.beq (degC (thetaE a b c) 7 x) (bif Nat.blt x 2 then 3 else 2)
theorem deg122_ok : ([(1, 2, 2), (2, 1, 2), (2, 2, 1)].all fun (t : Nat × Nat × Nat) => deg122 t.1 t.2.1 t.2.2) = true := by kernel_rfl
theorem exact_seven {f : Nat → Nat} {a b c : Nat} (h122 : is122 a b c = true) (hb : IsBoard 7 ps) (k : Exact (nats ps) 7 (thetaE a b c) f) : SevenP 7 (nats ps) := by
  have hq := nats_mem hb.1
  have hn := edges_nodup hb.1
  have hon : ∀ i, i < 7 → ∃ x, x < 7 ∧ f x = i := fun i hi => k.onto.onto hi
  have h1 := List.all_eq_true.1 deg122_ok _ (is122_cases h122)
  have h1 : deg122 a b c = true := h1
  unfold deg122 at h1
  rw [Bool.and_eq_true, Bool.and_eq_true, Bool.and_eq_true, Bool.and_eq_true, List.all_eq_true, Bool.not_eq_true'] at h1
  obtain ⟨⟨⟨h16, h01⟩, hc1, hc2⟩, hdg⟩ := h1
  have hd : ∀ x, x < 7 → (nbL (nats ps) (f x)).length = bif Nat.blt x 2 then 3 else 2 := fun x hx => by
    rw [k.deg hn hq hon hx]
    exact Nat.eq_of_beq_eq_true (hdg x (List.mem_range.2 hx))
  have hd3 : ∀ x, x < 7 → ((nbL (nats ps) (f x)).length = 3 ↔ x < 2) := fun x hx => by
    rw [hd x hx]
    by_cases h2 : x < 2
    · have : Nat.blt x 2 = true := by rw [Nat.blt_eq]; exact h2
      rw [this]; simp [h2]
    · have : Nat.blt x 2 = false := by
        cases h : Nat.blt x 2 with
        | false => rfl
        | true => rw [Nat.blt_eq] at h; exact absurd h h2
      rw [this]; simp; omega
  have hlen : (nats ps).length = 8 := by
    have e1 := deg_sum hq
    have e2 := k.onto.sum (fun v => (nbL (nats ps) v).length)
    have e3 := sumN_congr (h := fun x => (nbL (nats ps) (f x)).length) (k := fun x => degC (thetaE a b c) 7 x) (n := 7) fun x hx => k.deg hn hq hon hx
    have e4 := Nat.eq_of_beq_eq_true h16
    have e2 : sumN (fun x => (nbL (nats ps) (f x)).length) 7 = sumN (fun v => (nbL (nats ps) v).length) 7 := e2
    omega
  have hne : f 0 ≠ f 1 := fun e => by have := k.emb.inj 0 1 (by omega) (by omega) e; omega
  have hmem : ∀ i, i ∈ (List.range 7).filter (fun i => decide ((nbL (nats ps) i).length = 3)) ↔ i = f 0 ∨ i = f 1 := fun i => by
    rw [List.mem_filter, List.mem_range, decide_eq_true_eq]
    constructor
    · rintro ⟨hi, h3⟩
      obtain ⟨x, hx, rfl⟩ := hon i hi
      have := (hd3 x hx).1 h3
      have : x = 0 ∨ x = 1 := by omega
      rcases this with rfl | rfl
      · exact .inl rfl
      · exact .inr rfl
    · rintro (rfl | rfl)
      · exact ⟨k.emb.lt 0 (by omega), (hd3 0 (by omega)).2 (by omega)⟩
      · exact ⟨k.emb.lt 1 (by omega), (hd3 1 (by omega)).2 (by omega)⟩
  have hnd : ((List.range 7).filter (fun i => decide ((nbL (nats ps) i).length = 3))).Nodup := List.nodup_range.filter _
  have hl2 := nodup_same (M := [f 0, f 1]) hnd (by simp [hne]) fun x => by rw [hmem]; simp
  refine ⟨rfl, hlen, fun i hi => ?_, ?_⟩
  · obtain ⟨x, hx, rfl⟩ := hon i hi
    rw [hd x hx]
    cases Nat.blt x 2
    · exact .inr rfl
    · exact .inl rfl
  · have na01 : ¬ Adj (nats ps) (f 0) (f 1) := fun e => by rw [k.all 0 1 (by omega) (by omega) e] at h01; cases h01
    have c01 := common hn hq k (x := 0) (y := 1) (by omega) (by omega)
    have c10 := common hn hq k (x := 1) (y := 0) (by omega) (by omega)
    rw [Nat.eq_of_beq_eq_true hc1] at c01
    rw [Nat.eq_of_beq_eq_true hc2] at c10
    match hL : (List.range 7).filter (fun i => decide ((nbL (nats ps) i).length = 3)), hl2 with
    | [s, t], _ =>
      rw [hL] at hmem hnd
      have hs := (hmem s).1 (by simp)
      have ht := (hmem t).1 (by simp)
      have hst : s ≠ t := by simpa using hnd
      refine ⟨s, t, rfl, ?_⟩
      rcases hs with rfl | rfl
      · rcases ht with rfl | rfl
        · exact absurd rfl hst
        · exact ⟨fun h => na01 ((nbL_mem hq).1 h), c01⟩
      · rcases ht with rfl | rfl
        · exact ⟨fun h => na01 (adj_symm ((nbL_mem hq).1 h)), c10⟩
        · exact absurd rfl hst
end
end Go.Eng
